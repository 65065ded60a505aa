/- the layer over the model, part 11 -/
import Derived.Test.YtahhhfgmcdajhaaA10
set_option autoImplicit false
set_option linter.unusedSimpArgs false
set_option linter.unusedVariables false
set_option linter.unnecessarySimpa false
section
set_option linter.unusedSimpArgs false
set_option linter.unusedVariables false
namespace Go.Av
open Go.RowKit

/-- What a walk holds of the heap: an object · the end of a frozen slice · a list of its own. -/
inductive Item where
 | obj (id : Nat) (o : AObj)
 | tl (t : Tail)
 | own (sz : Nat) (v : AV) (cs : List AV)
 | many (ids : List Nat) (p : AHeap → Prop) (hp : ∀ H H' : AHeap, p H → (∀ i, i ∈ ids → H'[i]? = H[i]?) → p H') (hl : ∀ H : AHeap, p H → ∀ i, i ∈ ids → ∃ o, H[i]? = some o)
/-- the blocks of an item -/
def Item.has : Item → Nat → Prop
 | .obj id _, i => i = id
 | .tl (.tok t), i => i = t
 | .tl _, _ => False
 | .own _ (.sl _ id _ _) _, i => i = id
 | .own _ _ _, _ => False
 | .many ids _ _ _, i => i ∈ ids
def Item.at (H : AHeap) : Item → Prop
 | .obj id o => H[id]? = some o
 | .tl t => t = .full ∨ ∃ i, t = .tok i ∧ H[i]? = some .tok
 | .own sz v cs => (∃ s, v = .dl s [] .full ∧ cs = []) ∨ ∃ id len, v = .sl sz id 0 len ∧ cs.length = len * sz ∧ H[id]? = some (.cells cs)
 | .many _ p _ _ => p H
def apart (x y : Item) : Prop := ∀ i, x.has i → ¬ y.has i
theorem apart.symm {x y : Item} (h : apart x y) : apart y x := fun i h1 h2 => h i h2 h1
structure Hv (H : AHeap) (L : List Item) : Prop where
 each : ∀ x, x ∈ L → x.at H
 ap : L.Pairwise apart

theorem Item.get {H : AHeap} {x : Item} {i : Nat} (h : x.at H) (hi : x.has i) : ∃ o, H[i]? = some o := by
 cases x with
 | obj id o => cases hi; exact ⟨o, h⟩
 | tl t =>
  rcases h with rfl | ⟨j, rfl, h⟩
  ·cases hi
  ·cases hi; exact ⟨_, h⟩
 | own sz v cs =>
  rcases h with ⟨s, rfl, _⟩ | ⟨id, len, rfl, _, h⟩
  ·cases hi
  ·cases hi; exact ⟨_, h⟩
 | many ids p hp hl => exact hl H h i hi
theorem Item.lt {H : AHeap} {x : Item} {i : Nat} (h : x.at H) (hi : x.has i) : i < H.length := by
 obtain ⟨o, ho⟩ := Item.get h hi
 exact (List.getElem?_eq_some_iff.1 ho).1
theorem Item.keep {H H' : AHeap} {x : Item} (h : x.at H) (hk : ∀ i, x.has i → H'[i]? = H[i]?) : x.at H' := by
 cases x with
 | obj id o => exact (hk id rfl).trans h
 | tl t =>
  rcases h with rfl | ⟨j, rfl, h⟩
  ·exact .inl rfl
  ·exact .inr ⟨j, rfl, (hk j rfl).trans h⟩
 | own sz v cs =>
  rcases h with h | ⟨id, len, rfl, h1, h⟩
  ·exact .inl h
  ·exact .inr ⟨id, len, rfl, h1, (hk id rfl).trans h⟩
 | many ids p hp hl => exact hp H H' h hk

theorem Hv.nil (H : AHeap) : Hv H [] := ⟨fun _ h => (by cases h), .nil⟩
theorem Hv.keep {H H' : AHeap} {L : List Item} (h : Hv H L) (hk : ∀ i, i < H.length → H'[i]? = H[i]?) : Hv H' L :=
 ⟨fun x hx => Item.keep (h.each x hx) fun i hi => hk i (Item.lt (h.each x hx) hi), h.ap⟩
/-- a new block -/
theorem Hv.push {H : AHeap} {L : List Item} (h : Hv H L) (o : AObj) {x : Item} (hx : x.at (H ++ [o])) (hi : ∀ i, x.has i → i = H.length) : Hv (H ++ [o]) (x :: L) := by
 have hk : Hv (H ++ [o]) L := h.keep fun i hi => List.getElem?_append_left hi
 refine ⟨fun y hy => ?_, List.pairwise_cons.2 ⟨fun y hy i h1 h2 => ?_, h.ap⟩⟩
 ·rcases List.mem_cons.1 hy with rfl | hy
  ·exact hx
  ·exact hk.each y hy
 ·have := Item.lt (h.each y hy) h2
  have := hi i h1
  omega
theorem Hv.pushO {H : AHeap} {L : List Item} (h : Hv H L) (o : AObj) : Hv (H ++ [o]) (.obj H.length o :: L) :=
 h.push o (x := .obj H.length o) (show (H ++ [o])[H.length]? = some o from get_new H o) (fun i h => by cases h; rfl)
/-- a block that is held is set -/
theorem Hv.set {H : AHeap} {L : List Item} {x y : Item} {i : Nat} (h : Hv H (x :: L)) (hx : x.has i) (o : AObj) (hy : y.at (H.set i o)) (hyi : ∀ j, y.has j → j = i) : Hv (H.set i o) (y :: L) := by
 obtain ⟨h1, h2⟩ := h
 obtain ⟨h2, h3⟩ := List.pairwise_cons.1 h2
 refine ⟨fun z hz => ?_, List.pairwise_cons.2 ⟨fun z hz j hj hzj => ?_, h3⟩⟩
 ·rcases List.mem_cons.1 hz with rfl | hz
  ·exact hy
  ·refine Item.keep (h1 z (by simp [hz])) fun j hj => get_set_ne _ (fun e => ?_)
   subst e
   exact h2 z hz i hx hj
 ·have := hyi j hj
  subst this
  exact h2 z hz j hx hzj
theorem Hv.drop {H : AHeap} {L : List Item} {x : Item} (h : Hv H (x :: L)) : Hv H L := ⟨fun y hy => h.each y (by simp [hy]), (List.pairwise_cons.1 h.ap).2⟩
/-- an item without a block -/
theorem Hv.free {H : AHeap} {L : List Item} {x : Item} (h : Hv H L) (hx : x.at H) (hi : x.has = fun _ => False) : Hv H (x :: L) := by
 refine ⟨fun y hy => ?_, List.pairwise_cons.2 ⟨fun y hy i h1 => by rw [hi] at h1; exact h1.elim, h.ap⟩⟩
 rcases List.mem_cons.1 hy with rfl | hy
 ·exact hx
 ·exact h.each y hy
/-- the same block, said in another way -/
theorem Hv.as {H : AHeap} {L : List Item} {x y : Item} (h : Hv H (x :: L)) (hy : y.at H) (hi : ∀ i, y.has i → x.has i) : Hv H (y :: L) := by
 refine ⟨fun z hz => ?_, List.pairwise_cons.2 ⟨fun z hz i h1 h2 => (List.pairwise_cons.1 h.ap).1 z hz i (hi i h1) h2, (List.pairwise_cons.1 h.ap).2⟩⟩
 rcases List.mem_cons.1 hz with rfl | hz
 ·exact hy
 ·exact h.each z (by simp [hz])

inductive Pull : List Item → Item → List Item → Prop
 | here {x : Item} {l : List Item} : Pull (x :: l) x l
 | there {l l' : List Item} {x z : Item} (h : Pull l x l') : Pull (z :: l) x (z :: l')
theorem Pull.perm {l l' : List Item} {x : Item} (h : Pull l x l') : List.Perm l (x :: l') := by
 induction h with
 | here => exact .refl _
 | there _ ih => exact (ih.cons _).trans (.swap _ _ _)
theorem Hv.perm {H : AHeap} {L L' : List Item} (h : Hv H L) (p : List.Perm L L') : Hv H L' :=
 ⟨fun x hx => h.each x (p.mem_iff.2 hx), p.pairwise h.ap (@fun _ _ h => apart.symm h)⟩
theorem Hv.pull {H : AHeap} {L L' : List Item} {x : Item} (h : Hv H L) (p : Pull L x L') : Hv H (x :: L') := h.perm p.perm

theorem wkV.trans {x y z : AV} (h : wkV x y) (k : wkV y z) : wkV x z := by
 rcases h with rfl | rfl | ⟨s1, s2, es, t1, t2, rfl, rfl, h1, h2⟩
 ·exact .inl rfl
 ·exact k
 ·rcases k with k | rfl | ⟨s3, s4, es2, t3, t4, e, rfl, k1, k2⟩
  ·cases k
  ·exact .inr (.inr ⟨s1, s2, es, t1, t2, rfl, rfl, h1, h2⟩)
  ·cases e
   refine .inr (.inr ⟨s1, s4, es, t1, t4, rfl, rfl, ?_, ?_⟩)
   ·rcases h1 with rfl | rfl
    ·exact k1
    ·exact .inr rfl
   ·rcases h2 with rfl | h2
    ·rcases k2 with rfl | ⟨k2, k3⟩
     ·exact .inl rfl
     ·exact .inr ⟨k2, fun t e => by rcases h1 with rfl | rfl <;> first | exact k3 t e | cases e⟩
    ·exact .inr h2
theorem Wk.trans : ∀ {l1 l2 l3 : List AV}, Wk l1 l2 → Wk l2 l3 → Wk l1 l3
 | [], [], [], _, _ => trivial
 | _ :: _, _ :: _, _ :: _, h, k => ⟨wkV.trans h.1 k.1, Wk.trans h.2 k.2⟩
 | [], _ :: _, _, h, _ => h.elim
 | _ :: _, [], _, h, _ => h.elim
 | _, [], _ :: _, _, k => k.elim
 | _, _ :: _, [], _, k => k.elim
theorem WkO.trans {x y z : AObj} (h : WkO x y) (k : WkO y z) : WkO x z := by
 rcases h with rfl | ⟨c1, c2, rfl, rfl, h⟩
 ·exact k
 ·rcases k with rfl | ⟨c3, c4, e, rfl, k⟩
  ·exact .inr ⟨c1, c2, rfl, rfl, h⟩
  ·cases e; exact .inr ⟨c1, c4, rfl, rfl, h.trans k⟩
theorem WkH.trans {H1 H2 H3 : AHeap} (h : WkH H1 H2) (k : WkH H2 H3) : WkH H1 H3 :=
 ⟨h.1.trans k.1, fun i o hi => by
  obtain ⟨o2, h1, h2⟩ := h.2 i o hi
  obtain ⟨o3, h3, h4⟩ := k.2 i o2 h1
  exact ⟨o3, h3, h2.trans h4⟩⟩
/-- What is asked, out of what is held. -/
inductive Need : List Item → List Item → Prop
 | done {l : List Item} : Need l l
 | take {x : Item} {h h' n : List Item} (p : Pull h x h') (k : Need n h') : Need (x :: n) h
 | takew {id : Nat} {cs cs0 : List AV} {h h' n : List Item} (p : Pull h (.obj id (.cells cs)) h') (hw : Wk cs0 cs) (k : Need n h') : Need (.obj id (.cells cs0) :: n) h
 | drop {x : Item} {h n : List Item} (k : Need n h) : Need n (x :: h)
 | full {h n : List Item} (k : Need n h) : Need (.tl .full :: n) h
 | own {sz id len : Nat} {cs : List AV} {h h' n : List Item} (p : Pull h (.obj id (.cells cs)) h') (hl : cs.length = len * sz) (k : Need n h') : Need (.own sz (.sl sz id 0 len) cs :: n) h
 | own0 {sz s : Nat} {h n : List Item} (k : Need n h) : Need (.own sz (.dl s [] .full) [] :: n) h
def idsIn (n h : List Item) : Prop := ∀ y, y ∈ n → ∀ i, y.has i → ∃ z, z ∈ h ∧ z.has i
theorem Hv.cons {H : AHeap} {L L' : List Item} {x : Item} (h : Hv H (x :: L)) (k : Hv H L') (hs : idsIn L' L) : Hv H (x :: L') := by
 refine ⟨fun z hz => ?_, List.pairwise_cons.2 ⟨fun z hz i h1 h2 => ?_, k.ap⟩⟩
 ·rcases List.mem_cons.1 hz with rfl | hz
  ·exact h.each _ (by simp)
  ·exact k.each z hz
 ·obtain ⟨u, hu, hui⟩ := hs z hz i h2
  exact (List.pairwise_cons.1 h.ap).1 u hu i h1 hui
theorem idsIn.drop {n h : List Item} {x : Item} (k : idsIn n h) : idsIn n (x :: h) := fun y hy i hi => by obtain ⟨z, hz, hzi⟩ := k y hy i hi; exact ⟨z, by simp [hz], hzi⟩
theorem idsIn.cons {n h h' : List Item} {x y : Item} (p : Pull h x h') (hy : ∀ i, y.has i → x.has i) (k : idsIn n h') : idsIn (y :: n) h := fun z hz i hi => by
 rcases List.mem_cons.1 hz with rfl | hz
 ·exact ⟨x, p.perm.mem_iff.2 (by simp), hy i hi⟩
 ·obtain ⟨u, hu, hui⟩ := k z hz i hi
  exact ⟨u, p.perm.mem_iff.2 (by simp [hu]), hui⟩
theorem idsIn.none {n h : List Item} {y : Item} (hy : y.has = fun _ => False) (k : idsIn n h) : idsIn (y :: n) h := fun z hz i hi => by
 rcases List.mem_cons.1 hz with rfl | hz
 ·rw [hy] at hi; exact hi.elim
 ·exact k z hz i hi
def sameBut (h : List Item) (H H' : AHeap) : Prop := ∀ i, (∀ x, x ∈ h → ¬ x.has i) → H'[i]? = H[i]?
theorem sameBut.head {H H' : AHeap} {x : Item} {h h' : List Item} (hH : Hv H (x :: h')) (hx : x.at H) (k : sameBut h' H H') : x.at H' :=
 Item.keep hx fun i hi => k i fun y hy e => (List.pairwise_cons.1 hH.ap).1 y hy i hi e
theorem sameBut.pull {H H' : AHeap} {x : Item} {h h' : List Item} (p : Pull h x h') (k : sameBut h' H H') : sameBut h H H' := fun i hi => k i fun y hy => hi y (p.perm.mem_iff.2 (by simp [hy]))
theorem Hv.head {H H' : AHeap} {x : Item} {h' n : List Item} (hH : Hv H (x :: h')) (k : sameBut h' H H') (hn : Hv H' n) (hi : idsIn n h') : Hv H' (x :: n) := by
 have hx := sameBut.head (h := h') hH (hH.each x (by simp)) k
 refine ⟨fun z hz => ?_, List.pairwise_cons.2 ⟨fun z hz i h1 h2 => ?_, hn.ap⟩⟩
 ·rcases List.mem_cons.1 hz with rfl | hz
  ·exact hx
  ·exact hn.each z hz
 ·obtain ⟨u, hu, hui⟩ := hi z hz i h2
  exact (List.pairwise_cons.1 hH.ap).1 u hu i h1 hui
theorem Need.st {n h : List Item} (k : Need n h) : ∀ {H : AHeap}, Hv H h → ∃ H', WkH H' H ∧ Hv H' n ∧ idsIn n h ∧ sameBut h H H' := by
 induction k with
 | done => exact fun {H} hs => ⟨H, WkH.refl H, hs, fun y hy i hi => ⟨y, hy, hi⟩, fun _ _ => rfl⟩
 | take p k ih =>
  intro H hs
  have hp := hs.pull p
  obtain ⟨H', h1, h2, h3, h4⟩ := ih hp.drop
  exact ⟨H', h1, hp.head h4 h2 h3, h3.cons p (fun _ h => h), h4.pull p⟩
 | @takew id cs cs0 h h' n p hw k ih =>
  intro H hs
  have hp := hs.pull p
  have hf : H[id]? = some (.cells cs) := hp.each _ (List.mem_cons_self ..)
  have hp2 := hp.set (y := .obj id (.cells cs0)) rfl _ (get_set_self _ hf) (fun j h => by cases h; rfl)
  obtain ⟨H', h1, h2, h3, h4⟩ := ih hp2.drop
  refine ⟨H', h1.trans (WkH.set hf hw), hp2.head h4 h2 h3, h3.cons p (fun _ h => h), fun i hi => ?_⟩
  rw [(h4.pull p) i hi, get_set_ne]
  intro e
  subst e
  exact hi _ (p.perm.mem_iff.2 (List.mem_cons_self ..)) rfl
 | drop k ih =>
  intro H hs
  obtain ⟨H', h1, h2, h3, h4⟩ := ih hs.drop
  exact ⟨H', h1, h2, h3.drop, fun i hi => h4 i fun x hx => hi x (by simp [hx])⟩
 | full k ih =>
  intro H hs
  obtain ⟨H', h1, h2, h3, h4⟩ := ih hs
  exact ⟨H', h1, h2.free (.inl rfl) rfl, h3.none rfl, h4⟩
 | @own sz id len cs h h' n p hl k ih =>
  intro H hs
  have hp := hs.pull p
  have hp2 := hp.as (y := .own sz (.sl sz id 0 len) cs) (.inr ⟨_, _, rfl, hl, hp.each (.obj _ _) (List.mem_cons_self ..)⟩) (fun i hi => hi)
  obtain ⟨H', h1, h2, h3, h4⟩ := ih hp.drop
  exact ⟨H', h1, hp2.head h4 h2 h3, h3.cons p (fun _ h => h), h4.pull p⟩
 | own0 k ih =>
  intro H hs
  obtain ⟨H', h1, h2, h3, h4⟩ := ih hs
  exact ⟨H', h1, h2.free (.inl ⟨_, rfl, rfl⟩) rfl, h3.none rfl, h4⟩

/-- What is known of the heap, for the reckoning. -/
def Facts (H : AHeap) : List Item → Prop
 | .obj id o :: l => H[id]? = some o ∧ Facts H l
 | .tl _ :: l => Facts H l
 | .own _ v _ :: l => (AV.cells v = [v] ∧ isUndef v = false ∧ AV.one v = true) ∧ Facts H l
 | .many _ _ _ _ :: l => Facts H l
 | [] => True
theorem Hv.facts {H : AHeap} : ∀ {L : List Item}, Hv H L → Facts H L
 | [], _ => trivial
 | .obj id o :: l, h => ⟨h.each (.obj id o) (by simp), Hv.facts h.drop⟩
 | .tl t :: l, h => Hv.facts (L := l) h.drop
 | .own sz v cs :: l, h => ⟨by
   rcases h.each (.own sz v cs) (by simp) with ⟨_, rfl, _⟩ | ⟨_, _, rfl, _⟩ <;> exact ⟨rfl, rfl, rfl⟩, Hv.facts (L := l) h.drop⟩
 | .many _ _ _ _ :: l, h => Hv.facts (L := l) h.drop
theorem Facts_obj (H : AHeap) (id : Nat) (o : AObj) (l : List Item) : Facts H (.obj id o :: l) = (H[id]? = some o ∧ Facts H l) := Eq.trans rfl rfl
theorem Facts_tl (H : AHeap) (t : Tail) (l : List Item) : Facts H (.tl t :: l) = Facts H l := Eq.trans rfl rfl
theorem Facts_own (H : AHeap) (sz : Nat) (v : AV) (cs : List AV) (l : List Item) : Facts H (.own sz v cs :: l) = ((AV.cells v = [v] ∧ isUndef v = false ∧ AV.one v = true) ∧ Facts H l) := Eq.trans rfl rfl

/-! ### operations -/
section
variable {P : Program} {B : Nat} {w0 : World} {Y : Hand} {a : List AV} {H : AHeap} {K : AV → AHeap → Prop} {L L' : List Item}
theorem alloc_go {t : TypeId} {te : TyA} {z : AV} (h1 : tyA P t = some te) (h2 : te.zero = some z) (h3 : z.cells.all AV.one = true) (hS : Hv H L)
  (hK : ∀ (id : Nat) (H' : AHeap), Hv H' (.obj id (.cells z.cells) :: L) → K (.ptr id 0) H') : eop P B w0 Y a H (.alloc t) K := by
 refine ⟨.ptr H.length 0, H ++ [.cells z.cells], ?_, hK H.length _ (hS.pushO _)⟩
 simp only [effV, h1, h2, h3, if_true]
/-- a new variable that holds a value -/
def boxE (v : AV) (H : AHeap) (K : AV → AHeap → Prop) : Prop := someK2 (if okCells v then some (.ptr H.length 0, H ++ [.cells v.cells]) else none) K
theorem eop_boxE (t : TypeId) (x : Operand) : eop P B w0 Y a H (.box t x) K = boxE (ev a x) H K := Eq.trans rfl rfl
theorem box_go {v : AV} (h3 : okCells v = true) (hS : Hv H L) (hK : ∀ (id : Nat) (H' : AHeap), Hv H' (.obj id (.cells v.cells) :: L) → K (.ptr id 0) H') : boxE v H K := by
 refine ⟨.ptr H.length 0, H ++ [.cells v.cells], by simp [h3], hK H.length _ (hS.pushO _)⟩
theorem sto_goW {t : TypeId} {v y : AV} {te : TyA} {id off : Nat} {cs : List AV} (ht : tyA P t = some te) (hv : wkD v y) (hp : Pull L (.obj id (.cells cs)) L') (hS : Hv H L) (h3 : okCells v = true)
  (h4 : v.cells.length = te.size) (h5 : off + te.size ≤ cs.length)
  (hK : ∀ (H' : AHeap), Hv H' (.obj id (.cells (putA cs off v.cells)) :: L') → K .undef H') : StoE P t (.ptr id off) y H K := by
 obtain ⟨c1, c2⟩ := okCells_spec h3
 have hs := hS.pull hp
 have hf := hs.each _ (List.mem_cons_self ..)
 exact ⟨v, hv, id, off, cs, te, rfl, hf, ht, h4, h5, c1, c2, hK _ (hs.set (y := .obj _ _) rfl _ (get_set_self _ hf) (fun j h => by cases h; rfl))⟩
theorem sto_go {t : TypeId} {v : AV} {te : TyA} {id off : Nat} {cs : List AV} (ht : tyA P t = some te) (hp : Pull L (.obj id (.cells cs)) L') (hS : Hv H L) (h3 : okCells v = true)
  (h4 : v.cells.length = te.size) (h5 : off + te.size ≤ cs.length)
  (hK : ∀ (H' : AHeap), Hv H' (.obj id (.cells (putA cs off v.cells)) :: L') → K .undef H') : StoE P t (.ptr id off) v H K := sto_goW ht (wkD.refl _) hp hS h3 h4 h5 hK

/-- The types of an append: the size of the elements, and how many of them there may be. -/
def AppTy (P : Program) (t : TypeId) (sz n : Nat) : Prop := ∃ ti e te z, tyA P t = some ti ∧ ti.kind = .slice e ∧ tyA P e = some te ∧ te.zero = some z ∧ z.cells.length = te.size ∧ 0 < te.size ∧ te.size = sz ∧ n * te.bytes ≤ 140737488355328 ∧ 0 < te.bytes
/-- What is appended: as a list of encoded things; less may be said of it. -/
def AppSrc (P : Program) (t2 : TypeId) (sz : Nat) (y : AV) (ys : List AV) : Prop := ∃ y', wkD y' y ∧ srcA P sz t2 y' = some ys
theorem AppSrc.dl {t2 : TypeId} {sz : Nat} {ys : List AV} {tl : Tail} {ti : TyA} {e : TypeId} (h1 : tyA P t2 = some ti) (h2 : ti.kind = .slice e) : AppSrc P t2 sz (.dl sz ys tl) ys :=
 ⟨_, wkD.refl _, by simp [srcA, h1, h2]⟩
theorem AppSrc.str {t2 : TypeId} {b : List UInt8} {ti : TyA} (h1 : tyA P t2 = some ti) (h2 : ti.kind = .str) : AppSrc P t2 1 (.str b) (List.map (AV.int .u8) (bytesOf b)) :=
 ⟨_, wkD.refl _, by simp [srcA, h1, h2, bytesOf]⟩
theorem AppSrc.wk {t2 : TypeId} {sz : Nat} {x y : AV} {tl : Tail} {ti : TyA} {e : TypeId} (h1 : tyA P t2 = some ti) (h2 : ti.kind = .slice e) (hx : x.cells.length = sz) (h : Wk x.cells y.cells) : AppSrc P t2 sz (.dl sz [y] tl) [x] :=
 ⟨.dl sz [x] tl, wkD.one hx h, by simp [srcA, h1, h2]⟩

/-- the same, also out of a block of one's own -/
def AppSrcH (P : Program) (H : AHeap) (t2 : TypeId) (sz : Nat) (y : AV) (ys : List AV) : Prop := ∃ y', wkD y' y ∧ SrcP P H sz t2 y' ys
theorem AppSrc.h {t2 : TypeId} {sz : Nat} {y : AV} {ys : List AV} (h : AppSrc P t2 sz y ys) : AppSrcH P H t2 sz y ys := let ⟨y', h1, h2⟩ := h; ⟨y', h1, .inl h2⟩
theorem kill_tok (H : AHeap) (i : Nat) : kill H (.tok i) = H.set i .dead := rfl
/-- append to a frozen slice whose end is held -/
theorem app_rawH {t t2 : TypeId} {sz n : Nat} {es ys : List AV} {tl : Tail} {y : AV} (hT : AppTy P t sz n) (hy : AppSrcH P H t2 sz y ys) (hlen : es.length + ys.length ≤ n) (hS : Hv H (.tl tl :: L))
  {s : Nat} (hs : s = sz ∨ (es = [] ∧ tl = .full)) (hK : ∀ (tl' : Tail) (H' : AHeap), Hv H' (.tl tl' :: L) → K (.dl sz (es ++ ys) tl') H') : AppE P t t2 (.dl s es tl) y H K := by
 obtain ⟨ti, e, te, z, h1, h2, h3, h4, h5, h6, rfl, h9, h10⟩ := hT
 obtain ⟨y', hw, h7⟩ := hy
 have hb : (es.length + ys.length) * te.bytes ≤ 140737488355328 := Nat.le_trans (Nat.mul_le_mul_right _ hlen) h9
 refine ⟨y', hw, .inl ⟨ti, e, te, z, ys, s, es, tl, h1, h2, h3, h4, h5, h6, h7, rfl, hs, ?_, ?_⟩⟩
 ·rintro rfl
  have := hK tl H hS
  rwa [List.append_nil] at this
 ·intro _
  refine ⟨?_, hb, by have := Nat.le_trans (Nat.le_mul_of_pos_right (es.length + ys.length) h10) hb; omega, ?_⟩
  ·rcases hS.each _ (List.mem_cons_self ..) with rfl | ⟨i, rfl, h⟩
   ·trivial
   ·exact h
  ·refine hK _ _ ?_
   rcases hS.each _ (List.mem_cons_self ..) with rfl | ⟨i, rfl, h⟩
   ·exact hS.drop.push _ (.inr ⟨_, rfl, get_new _ _⟩) (fun i h => by cases h; rfl)
   ·have hl : (kill H (.tok i)).length = H.length := by simp [kill]
    have h1 : Hv (H.set i .dead) (.tl .full :: L) := hS.set rfl _ (.inl rfl) (fun j h => by cases h)
    have h2 := h1.drop.push .tok (x := .tl (.tok (H.set i AObj.dead).length)) (.inr ⟨_, rfl, get_new _ _⟩) (fun i h => by cases h; rfl)
    rw [kill_tok]
    simpa using h2
theorem app_raw {t t2 : TypeId} {sz n : Nat} {es ys : List AV} {tl : Tail} {y : AV} (hT : AppTy P t sz n) (hy : AppSrc P t2 sz y ys) (hlen : es.length + ys.length ≤ n) (hS : Hv H (.tl tl :: L))
  {s : Nat} (hs : s = sz ∨ (es = [] ∧ tl = .full)) (hK : ∀ (tl' : Tail) (H' : AHeap), Hv H' (.tl tl' :: L) → K (.dl sz (es ++ ys) tl') H') : AppE P t t2 (.dl s es tl) y H K := app_rawH hT hy.h hlen hS hs hK
/-- append to a block of one's own, or to nothing -/
theorem app_ownH {t t2 : TypeId} {sz n : Nat} {v : AV} {cs ys : List AV} {y : AV} (hT : AppTy P t sz n) (hy : AppSrcH P H t2 sz y ys) (hp : Pull L (.own sz v cs) L') (hS : Hv H L) (hlen : cs.length + ys.length * sz ≤ n * sz) (hys : ys ≠ [])
  (hK : ∀ (v' : AV) (H' : AHeap), Hv H' (.own sz v' (cs ++ flat ys) :: L') → K v' H') (hl : (flat ys).length = ys.length * sz) : AppE P t t2 v y H K := by
 obtain ⟨ti, e, te, z, h1, h2, h3, h4, h5, h6, rfl, h9, h10⟩ := hT
 obtain ⟨y', hw, h7⟩ := hy
 have hs := hS.pull hp
 rcases hs.each _ (List.mem_cons_self ..) with ⟨s, rfl, rfl⟩ | ⟨id, len, rfl, hc, hid⟩
 ·have hl2 : ys.length ≤ n := Nat.le_of_mul_le_mul_right (by simpa using hlen) h6
  have hb := Nat.le_trans (Nat.mul_le_mul_right te.bytes hl2) h9
  refine ⟨y', hw, .inr (.inl ⟨ti, e, te, z, ys, s, h1, h2, h3, h4, h5, h6, h7, rfl, hys, hb, by have := Nat.le_trans (Nat.le_mul_of_pos_right ys.length h10) hb; omega, hK _ _ ?_⟩)⟩
  rw [List.nil_append]
  exact hs.drop.push _ (.inr ⟨_, _, rfl, hl, get_new _ _⟩) (fun i h => by cases h; rfl)
 ·have hl2 : len + ys.length ≤ n := Nat.le_of_mul_le_mul_right (by rw [Nat.add_mul]; omega) h6
  have hb := Nat.le_trans (Nat.mul_le_mul_right te.bytes hl2) h9
  refine ⟨y', hw, .inr (.inr (.inr ⟨ti, e, te, z, ys, id, len, cs, h1, h2, h3, h4, h5, h6, h7, rfl, hid, hc, hb, by have := Nat.le_trans (Nat.le_mul_of_pos_right (len + ys.length) h10) hb; omega, hK _ _ ?_⟩))⟩
  have h1 : Hv (H.set id .dead) (.tl .full :: L') := hs.set rfl _ (.inl rfl) (fun j h => by cases h)
  have h2 := h1.drop.push (.cells (cs ++ flat ys)) (x := .own te.size (.sl te.size (H.set id AObj.dead).length 0 (len + ys.length)) (cs ++ flat ys)) (.inr ⟨_, _, rfl, by rw [List.length_append, hl, hc, Nat.add_mul], get_new _ _⟩) (fun i h => by cases h; rfl)
  simpa using h2
theorem app_own {t t2 : TypeId} {sz n : Nat} {v : AV} {cs ys : List AV} {y : AV} (hT : AppTy P t sz n) (hy : AppSrc P t2 sz y ys) (hp : Pull L (.own sz v cs) L') (hS : Hv H L) (hlen : cs.length + ys.length * sz ≤ n * sz) (hys : ys ≠ [])
  (hK : ∀ (v' : AV) (H' : AHeap), Hv H' (.own sz v' (cs ++ flat ys) :: L') → K v' H') (hl : (flat ys).length = ys.length * sz) : AppE P t t2 v y H K := app_ownH hT hy.h hp hS hlen hys hK hl
end
end Go.Av
end

section
set_option linter.unusedSimpArgs false
set_option linter.unusedVariables false
namespace Go.Av
open Go.RowKit

/-! ### ways that part, as the pure function parts -/
section
variable {α : Type} {f g : List AV → AHeap → Prop} {a : List AV} {H : AHeap} {r : α} {A C : Option α}
theorem Br.iteB {b : Bool} (hg : (if b = true then A else C) = some r) (h1 : b = true → A = some r → f a H) (h2 : b = false → C = some r → g a H) : Br (b = true) (later f a H) (later g a H) :=
 ⟨fun h => h1 h (by rwa [if_pos h] at hg), fun h => h2 (Bool.eq_false_iff.2 h) (by rwa [if_neg h] at hg)⟩
theorem Br.iteP {p : Prop} [Decidable p] (hg : (if p then A else C) = some r) (h1 : (p = True) → A = some r → f a H) (h2 : (p = False) → C = some r → g a H) : Br p (later f a H) (later g a H) :=
 ⟨fun h => h1 (eq_true h) (by rwa [if_pos h] at hg), fun h => h2 (eq_false h) (by rwa [if_neg h] at hg)⟩
end
theorem guard1 {c : Prop} [Decidable c] {α : Type} {x : Option α} {r : α} (h : (if c then x else none) = some r) : (c = True) ∧ x = some r := let ⟨h1, h2⟩ := guard_some h; ⟨eq_true h1, h2⟩
theorem guard2 {c d : Prop} [Decidable (c ∧ d)] {α : Type} {x : Option α} {r : α} (h : (if c ∧ d then x else none) = some r) : ((c = True) ∧ (d = True)) ∧ x = some r := let ⟨h1, h2⟩ := guard_some h; ⟨⟨eq_true h1.1, eq_true h1.2⟩, h2⟩
theorem guard3 {c d e : Prop} [Decidable (c ∧ d ∧ e)] {α : Type} {x : Option α} {r : α} (h : (if c ∧ d ∧ e then x else none) = some r) : ((c = True) ∧ (d = True) ∧ (e = True)) ∧ x = some r := let ⟨h1, h2⟩ := guard_some h; ⟨⟨eq_true h1.1, eq_true h1.2.1, eq_true h1.2.2⟩, h2⟩
theorem guard4 {c d e f : Prop} [Decidable (c ∧ d ∧ e ∧ f)] {α : Type} {x : Option α} {r : α} (h : (if c ∧ d ∧ e ∧ f then x else none) = some r) : ((c = True) ∧ (d = True) ∧ (e = True) ∧ (f = True)) ∧ x = some r := let ⟨h1, h2⟩ := guard_some h; ⟨⟨eq_true h1.1, eq_true h1.2.1, eq_true h1.2.2.1, eq_true h1.2.2.2⟩, h2⟩
theorem guardN {c : Prop} [Decidable (¬ c)] {α : Type} {x : Option α} {r : α} (h : (if ¬ c then x else none) = some r) : (c = False) ∧ x = some r := let ⟨h1, h2⟩ := guard_some h; ⟨eq_false h1, h2⟩

/-- an element, under its bounds -/
theorem getD_enc {α : Type} [Inhabited α] (f : α → AV) (l : List α) (i : Int) (h0 : 0 ≤ i) (h1 : i < (l.length : Int)) : List.getD (List.map f l) (Int.toNat i) AV.undef = f (rd l i) := rd_map f ⟨h0, h1⟩
theorem getD_enc0 {α : Type} [Inhabited α] (f : α → AV) (l : List α) (h : (0 : Int) < (l.length : Int)) : List.getD (List.map f l) 0 AV.undef = f (rd l 0) := rd_map f ⟨Int.le_refl _, h⟩
theorem map_app {α : Type} (f : α → AV) (l l' : List α) : List.map f l ++ List.map f l' = List.map f (l ++ l') := List.map_append.symm

/-! ### append -/
section
variable {P : Program} {B : Nat} {w0 : World} {H : AHeap} {K : AV → AHeap → Prop} {L L' : List Item} {t t2 : TypeId} {sz n : Nat} {y : AV} {α : Type} {enc : α → AV}
theorem app_nil {s : Nat} {ys : List α} (hT : AppTy P t sz n) (hy : AppSrc P t2 sz y (List.map enc ys)) (hS : Hv H L) (hlen : ys.length ≤ n) (hK : ∀ (tl' : Tail) (H' : AHeap), Hv H' (.tl tl' :: L) → K (.dl sz (List.map enc ys) tl') H') : AppE P t t2 (.dl s [] .full) y H K :=
 app_raw hT hy (by simpa using hlen) (hS.free (x := .tl .full) (.inl rfl) rfl) (.inr ⟨rfl, rfl⟩) hK
theorem app_map {l ys : List α} {tl : Tail} (hT : AppTy P t sz n) (hy : AppSrc P t2 sz y (List.map enc ys)) (hp : Pull L (.tl tl) L') (hS : Hv H L) (hlen : l.length + ys.length ≤ n) (hK : ∀ (tl' : Tail) (H' : AHeap), Hv H' (.tl tl' :: L') → K (.dl sz (List.map enc (l ++ ys)) tl') H') : AppE P t t2 (.dl sz (List.map enc l) tl) y H K := by
 refine app_raw hT hy (by simpa using hlen) (hS.pull hp) (.inl rfl) fun tl' H' h => ?_
 have := hK tl' H' h
 rwa [List.map_append] at this
theorem app_full {l ys : List α} (hT : AppTy P t sz n) (hy : AppSrc P t2 sz y (List.map enc ys)) (hS : Hv H L) (hlen : l.length + ys.length ≤ n) (hK : ∀ (tl' : Tail) (H' : AHeap), Hv H' (.tl tl' :: L) → K (.dl sz (List.map enc (l ++ ys)) tl') H') : AppE P t t2 (.dl sz (List.map enc l) .full) y H K :=
 app_map hT hy .here (hS.free (x := .tl .full) (.inl rfl) rfl) hlen hK
/-- encoders of one cell -/
def OneC (enc : α → AV) : Prop := ∀ x, (enc x).cells = [enc x]
/-- encoders of so many cells -/
def SzC (sz : Nat) (enc : α → AV) : Prop := ∀ x, (enc x).cells.length = sz
theorem OneC.toSz {enc : α → AV} (h : OneC enc) : SzC 1 enc := fun x => by rw [h]; rfl
theorem SzC.flat {enc : α → AV} (h : SzC sz enc) (l : List α) : (flat (List.map enc l)).length = l.length * sz := by
 rw [flat_length (fun e he => by obtain ⟨x, _, rfl⟩ := List.mem_map.1 he; exact h x), List.length_map]
/-- append to a list of its own: elements of one cell -/
theorem own_app1 {v : AV} {l ys : List α} (hc : OneC enc) (hT : AppTy P t 1 n) (hy : AppSrc P t2 1 y (List.map enc ys)) (hp : Pull L (.own 1 v (List.map enc l)) L') (hS : Hv H L) (hys : ys ≠ []) (hlen : l.length + ys.length ≤ n)
  (hK : ∀ (v' : AV) (H' : AHeap), Hv H' (.own 1 v' (List.map enc (l ++ ys)) :: L') → K v' H') : AppE P t t2 v y H K := by
 refine app_own hT hy hp hS (by simpa using hlen) (fun h => hys (List.map_eq_nil_iff.1 h)) ?_ (by rw [flat_one enc hc]; simp)
 intro v' H' h
 rw [flat_one enc hc, map_app] at h
 exact hK v' H' h
theorem own_app {v : AV} {l ys : List α} (hc : SzC sz enc) (hT : AppTy P t sz n) (hy : AppSrc P t2 sz y (List.map enc ys)) (hp : Pull L (.own sz v (flat (List.map enc l))) L') (hS : Hv H L) (hys : ys ≠ []) (hlen : l.length + ys.length ≤ n)
  (hK : ∀ (v' : AV) (H' : AHeap), Hv H' (.own sz v' (flat (List.map enc (l ++ ys))) :: L') → K v' H') : AppE P t t2 v y H K := by
 refine app_own hT hy hp hS ?_ (fun h => hys (List.map_eq_nil_iff.1 h)) ?_ (by rw [hc.flat, List.length_map])
 ·rw [hc.flat, List.length_map, ← Nat.add_mul]; exact Nat.mul_le_mul_right _ hlen
 ·intro v' H' h
  rw [← flat_append, map_app] at h
  exact hK v' H' h
end

/-! ### slots of a loop's activation -/
inductive Slot where
 | d
 | k
 | p (v : AV)
def applyS : List Slot → List AV → List AV
 | .d :: s, _ :: a => .undef :: applyS s a
 | .k :: s, x :: a => x :: applyS s a
 | .p v :: s, _ :: a => v :: applyS s a
 | _, a => a
theorem applyS_d (s : List Slot) (x : AV) (a : List AV) : applyS (.d :: s) (x :: a) = .undef :: applyS s a := Eq.trans rfl rfl
theorem applyS_k (s : List Slot) (x : AV) (a : List AV) : applyS (.k :: s) (x :: a) = x :: applyS s a := Eq.trans rfl rfl
theorem applyS_p (s : List Slot) (v x : AV) (a : List AV) : applyS (.p v :: s) (x :: a) = v :: applyS s a := Eq.trans rfl rfl
theorem applyS_nil (a : List AV) : applyS [] a = a := by cases a <;> rfl
/-- The activation at a round's end says all that the slots say over the one at the loop's head. -/
def W2 (s : List Slot) (a a' : List AV) : Prop := Wk (applyS s a) a'
theorem W2.nil : W2 [] [] [] := trivial
theorem W2.d {s : List Slot} {x y : AV} {a a' : List AV} (h : W2 s a a') : W2 (.d :: s) (x :: a) (y :: a') := Wk.u h
theorem W2.k {s : List Slot} {x : AV} {a a' : List AV} (h : W2 s a a') : W2 (.k :: s) (x :: a) (x :: a') := Wk.r h
theorem W2.p {s : List Slot} {v x : AV} {a a' : List AV} (h : W2 s a a') : W2 (.p v :: s) (x :: a) (v :: a') := Wk.r h
theorem W2.pw {s : List Slot} {v x y : AV} {a a' : List AV} (hv : wkV v y) (h : W2 s a a') : W2 (.p v :: s) (x :: a) (y :: a') := Wk.cons hv h
theorem W2.kw {s : List Slot} {x y : AV} {a a' : List AV} (hv : wkV x y) (h : W2 s a a') : W2 (.k :: s) (x :: a) (y :: a') := Wk.cons hv h

/-- A loop, out of the pure loop. -/
theorem AWP.loopE {P : Program} {B : Nat} {w0 : World} {rd : Option Nat} {σ ρ : Type} {c : Code} {Q : Exit → List AV → AHeap → Prop} {a : List AV} {H : AHeap} {L : List Item} {n : Nat} {r : ρ} (s0 : σ) (F : Nat → σ → Option ρ) (sl : σ → List Slot) (it : σ → List Item)
  (hg : F n s0 = some r) (h0 : W2 (sl s0) a a) (hS : Hv H L) (hN : Need (it s0) L) (zero : ∀ s, F 0 s = none)
  (round : ∀ (k : Nat) (s : σ) (H' : AHeap), F (k + 1) s = some r → Hv H' (it s) →
   AWP P B w0 rd c (thenQ (fun a' H'' => ∃ s' L', W2 (sl s') a a' ∧ F k s' = some r ∧ Hv H'' L' ∧ Need (it s') L') Q) (applyS (sl s) a) H') : AWP P B w0 rd (.loop c) Q a H := by
 refine AWP.loop (σ := Nat × σ) (fun s => applyS (sl s.2) a) (fun s H' => F s.1 s.2 = some r ∧ ∃ H'', WkH H'' H' ∧ Hv H'' (it s.2)) (fun s => s.1) ⟨(n, s0), h0, hg, ?_⟩ ?_
 ·obtain ⟨H', h1, h2, _⟩ := hN.st hS
  exact ⟨H', h1, h2⟩
 rintro ⟨k, s⟩ H' ⟨h1, H'', hw, h2⟩ _
 cases k with
 | zero => simp only [zero] at h1; cases h1
 | succ k =>
  refine (AWP.wkH hw (round k s H'' h1 h2)).mono fun e a' H3 h => ?_
  cases e with
  | normal =>
   obtain ⟨s', L', q1, q2, q3, q4⟩ := h
   obtain ⟨H4, h4, h5, _⟩ := q4.st q3
   exact ⟨(k, s'), q1, ⟨q2, H4, h4, h5⟩, Nat.lt_succ_self _⟩
  | _ => exact h
/-- A call, where less is said of what is held. -/
theorem ACall.wkN {P : Program} {B : Nat} {w0 : World} {f : FuncId} {args args' : List AV} {H : AHeap} {K : AV → AHeap → Prop} {N L : List Item} (h : ∀ H', Hv H' N → ACall P B w0 f args H' K) (hw : WkA args args') (hS : Hv H L) (hN : Need N L) : ACall P B w0 f args' H K := by
 obtain ⟨H', h1, h2, _⟩ := hN.st hS
 exact (ACall.wkH h1 (h H' h2)).wkA hw
/-- What a function comes to. -/
def RetK (K : AV → AHeap → Prop) : AV → AHeap → Prop := fun v H => ∃ v' H', wkR v' v ∧ WkH H' H ∧ K v' H'
theorem ACall.ret {P : Program} {B : Nat} {w0 : World} {f : FuncId} {args : List AV} {H : AHeap} {K : AV → AHeap → Prop} (h : ACall P B w0 f args H (RetK K)) : ACall P B w0 f args H K := by
 refine ACall.wkR (ACall.wkE (h.mono ?_))
 rintro v H' ⟨v', H'', h1, h2, h3⟩
 exact ⟨H'', h2, v', h1, h3⟩
theorem RetK.go {K : AV → AHeap → Prop} {v v' : AV} {H : AHeap} {N L : List Item} (h : ∀ H', Hv H' N → K v' H') (hw : wkR v' v) (hS : Hv H L) (hN : Need N L) : RetK K v H := by
 obtain ⟨H', h1, h2, _⟩ := hN.st hS
 exact ⟨v', H', hw, h1, h H' h2⟩
end Go.Av
namespace Go.Av
open Go.RowKit
/-! ### by place -/
section
variable {P : Program} {B : Nat} {w0 : World} {Y : Hand} {a a0 : List AV} {H : AHeap} {L L' : List Item} {ops rest : List Oper} {K0 : List AV → AHeap → Prop}
theorem allocAt (d : Nat) {t : TypeId} {te : TyA} {z : AV} (h1 : tyA P t = some te) (h2 : te.zero = some z) (h3 : z.cells.all AV.one = true) (hS : Hv H L)
  (hK : ∀ (id : Nat) (H' : AHeap), Hv H' (.obj id (.cells z.cells) :: L) → eopsK P B w0 Y ops rest K0 (some d) a0 (.ptr id 0) H') : eop P B w0 Y a H (.alloc t) (eopsK P B w0 Y ops rest K0 (some d) a0) := alloc_go h1 h2 h3 hS hK
theorem allocAtD (d : Nat) {t : TypeId} {te : TyA} {z : AV} (h1 : tyA P t = some te) (h2 : te.zero = some z) (h3 : z.cells.all AV.one = true) (hS : Hv H L)
  (hK : ∀ (id : Nat) (H' : AHeap), Hv H' (.obj id (.cells z.cells) :: L) → opC K0 (some d) a0 (.ptr id 0) H') : eop P B w0 Y a H (.alloc t) (opC K0 (some d) a0) := alloc_go h1 h2 h3 hS hK
theorem boxAt (d : Nat) {v : AV} (h3 : okCells v = true) (hS : Hv H L) (hK : ∀ (id : Nat) (H' : AHeap), Hv H' (.obj id (.cells v.cells) :: L) → eopsK P B w0 Y ops rest K0 (some d) a0 (.ptr id 0) H') : boxE v H (eopsK P B w0 Y ops rest K0 (some d) a0) := box_go h3 hS hK
theorem boxAtD (d : Nat) {v : AV} (h3 : okCells v = true) (hS : Hv H L) (hK : ∀ (id : Nat) (H' : AHeap), Hv H' (.obj id (.cells v.cells) :: L) → opC K0 (some d) a0 (.ptr id 0) H') : boxE v H (opC K0 (some d) a0) := box_go h3 hS hK
end
/-- where a value goes -/
def AtD (d : Nat) (K : AV → AHeap → Prop) : Prop := (∃ P B w0 Y ops rest K0 a0, K = eopsK P B w0 Y ops rest K0 (some d) a0) ∨ ∃ K0 a0, K = opC K0 (some d) a0
theorem AtD.e {P : Program} {B : Nat} {w0 : World} {Y : Hand} {a0 : List AV} {ops rest : List Oper} {K0 : List AV → AHeap → Prop} {d : Nat} : AtD d (eopsK P B w0 Y ops rest K0 (some d) a0) := .inl ⟨P, B, w0, Y, ops, rest, K0, a0, rfl⟩
theorem AtD.o {a0 : List AV} {K0 : List AV → AHeap → Prop} {d : Nat} : AtD d (opC K0 (some d) a0) := .inr ⟨K0, a0, rfl⟩
theorem atCall {d : Nat} {P : Program} {B : Nat} {w0 : World} {f : FuncId} {args : List AV} {H : AHeap} {K : AV → AHeap → Prop} (_ : AtD d K) (h : ACall P B w0 f args H K) : ACall P B w0 f args H K := h
theorem atApp {d : Nat} {P : Program} {t t2 : TypeId} {x y : AV} {H : AHeap} {K : AV → AHeap → Prop} (_ : AtD d K) (h : AppE P t t2 x y H K) : AppE P t t2 x y H K := h
/-- A loop, where what is held is any predicate. -/
theorem AWP.loopJ {P : Program} {B : Nat} {w0 : World} {rd : Option Nat} {σ ρ : Type} {c : Code} {Q : Exit → List AV → AHeap → Prop} {a : List AV} {H : AHeap} {n : Nat} {r : ρ} (s0 : σ) (F : Nat → σ → Option ρ) (sl : σ → List Slot) (J : σ → AHeap → Prop)
  (hg : F n s0 = some r) (h0 : W2 (sl s0) a a) (hJ : J s0 H) (zero : ∀ s, F 0 s = none)
  (round : ∀ (k : Nat) (s : σ) (H' : AHeap), F (k + 1) s = some r → J s H' →
   AWP P B w0 rd c (thenQ (fun a' H'' => ∃ s', W2 (sl s') a a' ∧ F k s' = some r ∧ J s' H'') Q) (applyS (sl s) a) H') : AWP P B w0 rd (.loop c) Q a H := by
 refine AWP.loop (σ := Nat × σ) (fun s => applyS (sl s.2) a) (fun s H' => F s.1 s.2 = some r ∧ J s.2 H') (fun s => s.1) ⟨(n, s0), h0, hg, hJ⟩ ?_
 rintro ⟨k, s⟩ H' ⟨h1, h2⟩ _
 cases k with
 | zero => simp only [zero] at h1; cases h1
 | succ k =>
  refine (round k s H' h1 h2).mono fun e a' H3 h => ?_
  cases e with
  | normal => obtain ⟨s', q1, q2, q3⟩ := h; exact ⟨(k, s'), q1, ⟨q2, q3⟩, Nat.lt_succ_self _⟩
  | _ => exact h
/-- A range over a function. -/
theorem Ext.none (H : AHeap) : Ext [] H := ⟨Nat.zero_le _, fun _ _ h => by simp at h⟩
theorem Hv.setO {H : AHeap} {L : List Item} {l : Nat} {o : AObj} (h : Hv H (.obj l o :: L)) {H' : AHeap} {o' : AObj} (h1 : H'[l]? = some o') (h2 : ∀ (i : Nat) (o : AObj), i ≠ l → H[i]? = some o → H'[i]? = some o) : Hv H' (.obj l o' :: L) := by
 refine ⟨fun z hz => ?_, List.pairwise_cons.2 ⟨fun z hz i hi hzi => (List.pairwise_cons.1 h.ap).1 z hz i hi hzi, (List.pairwise_cons.1 h.ap).2⟩⟩
 rcases List.mem_cons.1 hz with rfl | hz
 ·exact h1
 ·refine Item.keep (h.each z (by simp [hz])) fun i hi => ?_
  obtain ⟨o1, ho1⟩ := Item.get (h.each z (by simp [hz])) hi
  rw [ho1]
  exact h2 i o1 (fun e => (List.pairwise_cons.1 h.ap).1 z hz l rfl (e ▸ hi)) ho1
theorem AWP.rangeGo3 {P : Program} {B : Nat} {w0 : World} {a : List AV} {H : AHeap} {L : List Item} {g : Operand} {ps : Array Tmp} {assign body : Code} {Q : Exit → List AV → AHeap → Prop} {k : Nat} {first cap : List AV}
  (hg : ev a g = .fn (.func k) first cap) (hS : Hv H L)
  (h : ∀ (l : Nat) (H1 : AHeap) (lp : AObj) (KE : AV → AHeap → Prop),
   (∀ (args : List AV) (H : AHeap) (K : AV → AHeap → Prop) (a2 : List AV) (M : List Item), Hv H (.obj l lp :: M) → args.length = ps.size → eawp P B w0 (some l) noY assign (doneQ a2 H) (setArgs a ps.toList args) H →
    (∀ (H' : AHeap) (lp2 : AObj) (Qr : Exit → List AV → AHeap → Prop), Hv H' (.obj l lp2 :: M) →
     (∀ (a3 : List AV) (H3 : AHeap) (M3 : List Item), Hv H3 (.obj l lp2 :: M3) → (∀ H4, Hv H4 (.obj l lp :: M3) → K (.bool true) H4) → Qr .normal a3 H3) →
     AWP P B w0 (some l) body Qr a2 H') → roundY P B w0 l args H K) →
   (∀ (v : AV) (H : AHeap) (M : List Item), Hv H (.obj l lp :: M) → (∀ H', Hv H' M → Q .normal a H') → KE v H) →
   Hv H1 (.obj l lp :: L) → ACall P B w0 k (first ++ [.fn (.yield l) [] []] ++ cap) H1 KE) : AWP P B w0 none (.rangeFunc g ps assign body) Q a H := by
 refine AWP.rangeGo2 (H0 := []) (fun _ h => by cases h) hg (Ext.none H) ?_
 intro l H1 lp KE htk hr he _ hx hl _ hn
 refine h l H1 lp KE ?_ ?_ ?_
 ·intro args H2 K a2 M hM hps hA hB
  refine hr args H2 K a2 (hM.each _ (List.mem_cons_self ..)) hps hA (Ext.none _) ?_
  intro H' lp2 Qr ht2 _ f2 p2 _ h3
  refine hB H' lp2 Qr (hM.setO f2 p2) ?_
  intro a3 H3 M3 hM3 hK
  exact h3 a3 H3 (Ext.none _) (hM3.each _ (List.mem_cons_self ..)) (fun H4 _ f4 p4 _ => hK H4 (hM3.setO f4 p4))
 ·intro v H2 M hM hQ
  refine he v H2 (Ext.none _) (hM.each _ (List.mem_cons_self ..)) ?_
  intro H' _ p' _
  refine hQ H' ⟨fun z hz => ?_, hM.drop.ap⟩
  refine Item.keep (hM.each z (by simp [hz])) fun i hi => ?_
  obtain ⟨o1, ho1⟩ := Item.get (hM.each z (by simp [hz])) hi
  rw [ho1]
  exact p' i o1 (fun e => (List.pairwise_cons.1 hM.ap).1 z hz l rfl (e ▸ hi)) ho1
 ·refine ⟨fun z hz => ?_, List.pairwise_cons.2 ⟨fun z hz i hi hzi => ?_, hS.ap⟩⟩
  ·rcases List.mem_cons.1 hz with rfl | hz
   ·exact hl
   ·refine Item.keep (hS.each z hz) fun i hi => ?_
    obtain ⟨o1, ho1⟩ := Item.get (hS.each z hz) hi
    rw [ho1]; exact hx.2 i o1 ho1
  ·cases hi
   obtain ⟨o1, ho1⟩ := Item.get (hS.each z hz) hzi
   exact hn _ _ ho1 rfl
end Go.Av
namespace Go.Av
open Go.RowKit
/-- asked, and said as it is held -/
inductive Need0 : List Item → List Item → Prop
 | done {l : List Item} : Need0 l l
 | take {x : Item} {h h' n : List Item} (p : Pull h x h') (k : Need0 n h') : Need0 (x :: n) h
 | drop {x : Item} {h n : List Item} (k : Need0 n h) : Need0 n (x :: h)
 | full {h n : List Item} (k : Need0 n h) : Need0 (.tl .full :: n) h
 | own {sz id len : Nat} {cs : List AV} {h h' n : List Item} (p : Pull h (.obj id (.cells cs)) h') (hl : cs.length = len * sz) (k : Need0 n h') : Need0 (.own sz (.sl sz id 0 len) cs :: n) h
 | own0 {sz s : Nat} {h n : List Item} (k : Need0 n h) : Need0 (.own sz (.dl s [] .full) [] :: n) h
theorem Need0.st {n h : List Item} (k : Need0 n h) : ∀ {H : AHeap}, Hv H h → Hv H n ∧ idsIn n h := by
 induction k with
 | done => exact fun {H} hs => ⟨hs, fun y hy i hi => ⟨y, hy, hi⟩⟩
 | take p k ih =>
  intro H hs
  have hp := hs.pull p
  obtain ⟨h2, h3⟩ := ih hp.drop
  exact ⟨hp.cons h2 h3, h3.cons p (fun _ h => h)⟩
 | drop k ih =>
  intro H hs
  obtain ⟨h2, h3⟩ := ih hs.drop
  exact ⟨h2, h3.drop⟩
 | full k ih =>
  intro H hs
  obtain ⟨h2, h3⟩ := ih hs
  exact ⟨h2.free (.inl rfl) rfl, h3.none rfl⟩
 | @own sz id len cs h h' n p hl k ih =>
  intro H hs
  have hp := hs.pull p
  have hp2 := hp.as (y := .own sz (.sl sz id 0 len) cs) (.inr ⟨_, _, rfl, hl, hp.each (.obj _ _) (List.mem_cons_self ..)⟩) (fun i hi => hi)
  obtain ⟨h2, h3⟩ := ih hp.drop
  exact ⟨hp2.cons h2 h3, h3.cons p (fun _ h => h)⟩
 | own0 k ih =>
  intro H hs
  obtain ⟨h2, h3⟩ := ih hs
  exact ⟨h2.free (.inl ⟨_, rfl, rfl⟩) rfl, h3.none rfl⟩
theorem Hv.need0 {H : AHeap} {n h : List Item} (hs : Hv H h) (k : Need0 n h) : Hv H n := (k.st hs).1
theorem AWP.wkN {P : Program} {B : Nat} {w0 : World} {rd : Option Nat} {c : Code} {Q : Exit → List AV → AHeap → Prop} {a : List AV} {H : AHeap} {N L : List Item} (hS : Hv H L) (hN : Need N L) (h : ∀ H', Hv H' N → AWP P B w0 rd c Q a H') : AWP P B w0 rd c Q a H := by
 obtain ⟨H', h1, h2, _⟩ := hN.st hS
 exact AWP.wkH h1 (h H' h2)
section
variable {P : Program} {H : AHeap} {K : AV → AHeap → Prop} {L L' : List Item}
/-- a store into a list of one-cell elements -/
theorem stoL {α : Type} (enc : α → AV) {t : TypeId} {y : AV} {te : TyA} {id off : Nat} {l : List α} {v : α} (ht : tyA P t = some te) (hp : Pull L (.obj id (.cells (List.map enc l))) L') (hS : Hv H L) (h6 : te.size = 1) (hv : wkD (enc v) y) (hc : OneC enc) (hk : ∀ x, okCells (enc x) = true) (_ : te.size = 1) (hl : off < l.length)
  (hK : ∀ (H' : AHeap), Hv H' (.obj id (.cells (List.map enc (l.set off v))) :: L') → K .undef H') : StoE P t (.ptr id off) y H K := by
 refine sto_goW ht hv hp hS (hk v) (by rw [hc, h6]; rfl) (by rw [h6, List.length_map]; omega) ?_
 intro H' h
 have e : putA (List.map enc l) off (enc v).cells = List.map enc (l.set off v) := by
  simp only [putA, hc v, List.length_singleton, List.map_set]
  rw [List.set_eq_take_append_cons_drop, if_pos (by simpa using hl)]
  simp
 rw [e] at h
 exact hK H' h
end
theorem putA_nil (off : Nat) (v : AV) (vs : List AV) : putA [] off (v :: vs) = v :: vs := by simp [putA]
theorem putA_0 (c : AV) (cs : List AV) (vs : List AV) : putA (c :: cs) 0 vs = vs ++ (c :: cs).drop vs.length := by simp [putA]
theorem putA_s (c : AV) (cs : List AV) (off : Nat) (vs : List AV) : putA (c :: cs) (off + 1) vs = c :: putA cs off vs := by
 simp only [putA, List.take_succ_cons, List.cons_append, show off + 1 + vs.length = (off + vs.length) + 1 by omega, List.drop_succ_cons]
end Go.Av
namespace Go.Av
section
variable {P : Program} {B : Nat} {w0 : World} {rd : Option Nat} {Y : Hand} {a : List AV} {H : AHeap} {K : AV → AHeap → Prop} {Q : Exit → List AV → AHeap → Prop} {args : List AV} {x y : AV}
theorem atF (k : Nat) (h : ACall P B w0 k args H K) : ACall P B w0 k args H K := h
theorem atAlloc (t d : Nat) (_ : AtD d K) (h : eop P B w0 Y a H (.alloc t) K) : eop P B w0 Y a H (.alloc t) K := h
theorem atBox (d : Nat) (_ : AtD d K) (h : boxE x H K) : boxE x H K := h
theorem atSto (t : Nat) (h : StoE P t x y H K) : StoE P t x y H K := h
theorem atLoop {c : Code} (h : AWP P B w0 rd (.loop c) Q a H) : AWP P B w0 rd (.loop c) Q a H := h
theorem atRange {g : Operand} {ps : Array Tmp} {u v : Code} (h : AWP P B w0 rd (.rangeFunc g ps u v) Q a H) : AWP P B w0 rd (.rangeFunc g ps u v) Q a H := h
theorem atDraw (id : Nat) {ops : Array Oper} (h : AWP P B w0 rd (.region id ops true) Q a H) : AWP P B w0 rd (.region id ops true) Q a H := h
theorem atEx {σ : Type} {p : σ → Prop} (h : ∃ s, p s) : ∃ s, p s := h
theorem atAppE {t t2 : TypeId} (d : Nat) (_ : AtD d K) (h : AppE P t t2 x y H K) : AppE P t t2 x y H K := h
theorem atRet (h : RetK K x H) : RetK K x H := h
end
theorem pickL {ρ : Type} {x y : Option ρ} {r : ρ} {G : Prop} (_ : x = some r) (_ : x = y) (h : G) : G := h
end Go.Av
namespace Go.Av
theorem branchB {α : Type} {f g : List AV → AHeap → Prop} {a : List AV} {H : AHeap} {r : α} {A C : Option α} {b : Bool} (hg : (if b = true then A else C) = some r) (h1 : b = true → A = some r → f a H) (h2 : b = false → C = some r → g a H) : branch (.bool b) f g a H := by
 cases b with
 | true => rw [branch_true]; exact h1 rfl (by simpa using hg)
 | false => rw [branch_false]; exact h2 rfl (by simpa using hg)
theorem head_enc {α : Type} [Inhabited α] (f : α → AV) (l : List α) (i : Nat) (h : i < l.length) : (List.drop i (List.map f l)).head? = some (f (rdn l i)) := rdn_map f h
theorem head_enc0 {α : Type} [Inhabited α] (f : α → AV) (l : List α) (h : 0 < l.length) : (List.map f l).head? = some (f (rdn l 0)) := rdn_map0 f h
end Go.Av
namespace Go.Av
theorem take_enc {α : Type} (f : α → AV) (l : List α) (i : Nat) : List.take i (List.map f l) = List.map f (List.take i l) := List.map_take.symm
theorem drop_enc {α : Type} (f : α → AV) (l : List α) (i : Nat) : List.drop i (List.map f l) = List.map f (List.drop i l) := List.map_drop.symm
end Go.Av
namespace Go.Av
theorem head_enc2 {α : Type} [Inhabited α] (f : α → AV) (l : List α) (i : Nat) (h : i < l.length) : (List.map f (List.drop i l)).head? = some (f (rdn l i)) := by rw [List.map_drop]; exact rdn_map f h
end Go.Av
namespace Go.Av
theorem Br_true {f g : List AV → AHeap → Prop} {a : List AV} {H : AHeap} : Br True (later f a H) (later g a H) = f a H := propext ⟨fun h => h.1 trivial, fun h => ⟨fun _ => h, fun k => absurd trivial k⟩⟩
theorem Br_false {f g : List AV → AHeap → Prop} {a : List AV} {H : AHeap} : Br False (later f a H) (later g a H) = g a H := propext ⟨fun h => h.2 id, fun h => ⟨False.elim, fun _ => h⟩⟩
theorem guardS1 {c d e : Prop} [Decidable ((c ∧ d) ∧ ¬ e)] {α : Type} {x : Option α} {r : α} (h : (if (c ∧ d) ∧ ¬ e then x else none) = some r) : ((c = True) ∧ (d = True) ∧ (e = False)) ∧ x = some r := let ⟨h1, h2⟩ := guard_some h; ⟨⟨eq_true h1.1.1, eq_true h1.1.2, eq_false h1.2⟩, h2⟩
theorem guardS2 {b c d e : Prop} [Decidable (b ∧ (c ∧ d) ∧ ¬ e)] {α : Type} {x : Option α} {r : α} (h : (if b ∧ (c ∧ d) ∧ ¬ e then x else none) = some r) : ((b = True) ∧ (c = True) ∧ (d = True) ∧ (e = False)) ∧ x = some r := let ⟨h1, h2⟩ := guard_some h; ⟨⟨eq_true h1.1, eq_true h1.2.1.1, eq_true h1.2.1.2, eq_false h1.2.2⟩, h2⟩
theorem guardS3 {a b c d e : Prop} [Decidable (a ∧ b ∧ (c ∧ d) ∧ ¬ e)] {α : Type} {x : Option α} {r : α} (h : (if a ∧ b ∧ (c ∧ d) ∧ ¬ e then x else none) = some r) : ((a = True) ∧ (b = True) ∧ (c = True) ∧ (d = True) ∧ (e = False)) ∧ x = some r := let ⟨h1, h2⟩ := guard_some h; ⟨⟨eq_true h1.1, eq_true h1.2.1, eq_true h1.2.2.1.1, eq_true h1.2.2.1.2, eq_false h1.2.2.2⟩, h2⟩
end Go.Av
namespace Go.Av
theorem noneE {ρ : Type} {r : ρ} {G : Prop} (h : (none : Option ρ) = some r) : G := by cases h
theorem atClr {P : Program} {t : TypeId} {x : AV} {H : AHeap} {K : AV → AHeap → Prop} (h : Clr P t x H K) : Clr P t x H K := h
theorem clr_go {P : Program} {H : AHeap} {K : AV → AHeap → Prop} {L L' : List Item} {t e : TypeId} {ti te : TyA} {z : AV} {id off len : Nat} {α : Type} (enc : α → AV) {l : List α} (zv : α) (h1 : tyA P t = some ti) (h2 : ti.kind = .slice e) (h3 : tyA P e = some te) (h4 : te.zero = some z) (h5 : z.cells = [z]) (h6 : z.one = true) (h7 : te.size = 1) (hz : enc zv = z)
  (hp : Pull L (.obj id (.cells (List.map enc l))) L') (hS : Hv H L) (hl : off + len ≤ l.length)
  (hK : ∀ (H' : AHeap), Hv H' (.obj id (.cells (List.map enc (l.take off ++ List.replicate len zv ++ l.drop (off + len)))) :: L') → K (.tup []) H') : Clr P t (.sl 1 id off len) H K := by
 have hs := hS.pull hp
 have hfl : flat (List.replicate len z) = List.replicate len z := flat_replicate1 h5 len
 have hf : H[id]? = some (.cells (List.map enc l)) := hs.each _ (List.mem_cons_self ..)
 refine ⟨ti, e, te, z, h1, h2, h3, h4, by rw [h5, h7]; rfl, by rw [h5]; simp [h6], by omega, .inr ⟨id, off, len, _, by rw [h7], hf, by rw [h7, List.length_map]; omega, ?_⟩⟩
 refine hK _ (hs.setO ?_ (fun i o hne h => by rw [get_set_ne _ (Ne.symm hne)]; exact h))
 rw [get_set_self _ hf]
 congr 2
 simp only [putA, hfl, List.length_replicate, List.map_append, List.map_take, List.map_drop, List.map_replicate, hz]
end Go.Av
namespace Go.Av
open Go.RowKit
/-- where a value goes -/
def kAt (_ : Option Tmp) (K : AV → AHeap → Prop) : AV → AHeap → Prop := K
theorem kAt_eq (d : Option Tmp) (K : AV → AHeap → Prop) (v : AV) (H : AHeap) : kAt d K v H = K v H := Eq.trans rfl rfl
section
variable {P : Program} {B : Nat} {w0 : World} {Y : Hand} {ops rest : List Oper} {a : List AV} {H : AHeap} {op : Op} {dst : Option Tmp} {ty : TypeId} {pos : String} {af : Array Edge} {K : List AV → AHeap → Prop}
theorem eops_plainA : eops P B w0 Y ops (⟨dst, op, ty, pos, af, none⟩ :: rest) K a H = eop P B w0 Y a H op (kAt dst (eopsK P B w0 Y ops rest K dst a)) := Eq.trans rfl rfl
theorem eopR_eqA : eopR P B w0 Y ops rest K op dst a H = eop P B w0 Y a H op (kAt dst (eopsK P B w0 Y ops rest K dst a)) := Eq.trans rfl rfl
theorem opK_plainA : opK P B w0 Y ops ⟨dst, op, ty, pos, af, none⟩ K a H = eop P B w0 Y a H op (kAt dst (opC K dst a)) := Eq.trans rfl rfl
theorem opT_eqA : opT P B w0 Y K op dst a H = eop P B w0 Y a H op (kAt dst (opC K dst a)) := Eq.trans rfl rfl
end
section
variable {P : Program} {B : Nat} {w0 : World} {Y : Hand} {a : List AV} {H : AHeap} {K : AV → AHeap → Prop} {args : List AV} {x y : AV}
theorem atAlloc2 (t d : Nat) (h : eop P B w0 Y a H (.alloc t) (kAt (some d) K)) : eop P B w0 Y a H (.alloc t) (kAt (some d) K) := h
theorem atBox2 (d : Nat) (h : boxE x H (kAt (some d) K)) : boxE x H (kAt (some d) K) := h
theorem atAppE2 {t t2 : TypeId} (d : Nat) (h : AppE P t t2 x y H (kAt (some d) K)) : AppE P t t2 x y H (kAt (some d) K) := h
theorem atCall2 (k d : Nat) (h : ACall P B w0 k args H (kAt (some d) K)) : ACall P B w0 k args H (kAt (some d) K) := h
end
end Go.Av
namespace Go.Av
theorem wkN0 {α : Type} (enc : α → AV) (s s' : Nat) (tl : Tail) : wkV (.dl s (List.map enc ([] : List α)) .none) (.dl s' [] tl) := wkV.nil s s' tl
theorem wkNf {α : Type} (enc : α → AV) (s s' : Nat) : wkV (.dl s (List.map enc ([] : List α)) .full) (.dl s' [] .full) := wkV.nilf s s'
end Go.Av
namespace Go.Av
open Go.RowKit
def lenTs (o : Option TyA) (len : Nat) : Option AV := match o with
 | some ti => match ti.kind with
  | .slice _ => some (.int .i64 len)
  | .array n _ => some (.int .i64 n)
  | _ => none
 | none => none
theorem lenA_dl (P : Program) (H : AHeap) (t : TypeId) (sz : Nat) (es : List AV) (tl : Tail) : lenA P H t (.dl sz es tl) = lenTs (tyA P t) es.length := by
 unfold lenA lenTs; cases tyA P t with
 | none => rfl
 | some ti => simp only; cases ti.kind <;> rfl
theorem lenA_sl (P : Program) (H : AHeap) (t : TypeId) (sz id off len : Nat) : lenA P H t (.sl sz id off len) = lenTs (tyA P t) len := by
 unfold lenA lenTs; cases tyA P t with
 | none => rfl
 | some ti => simp only; cases ti.kind <;> rfl
def lenStr (o : Option TyA) (len : Nat) : Option AV := match o with
 | some ti => match ti.kind with
  | .str => some (.int .i64 len)
  | .array n _ => some (.int .i64 n)
  | _ => none
 | none => none
theorem lenA_str (P : Program) (H : AHeap) (t : TypeId) (s : List UInt8) : lenA P H t (.str s) = lenStr (tyA P t) s.length := by
 unfold lenA lenStr; cases tyA P t with
 | none => rfl
 | some ti => simp only; cases ti.kind <;> rfl
def idxD (P : Program) (o : Option TyA) (sz : Nat) (es : List AV) (n : Int) : Option AV := match o with
 | some ti => match ti.kind with
  | .slice e => match tyA P e with
   | some te => if 0 ≤ n ∧ n < es.length ∧ sz = te.size then some (.dp (es.getD n.toNat .undef).cells 0) else none
   | none => none
  | _ => none
 | none => none
theorem idxA_dl (P : Program) (t : TypeId) (sz : Nat) (es : List AV) (tl : Tail) (k : IntKind) (n : Int) : indexAddrA P t (.dl sz es tl) (.int k n) = idxD P (tyA P t) sz es n := by
 unfold indexAddrA idxD; cases tyA P t with
 | none => rfl
 | some ti =>
  simp only
  cases ti.kind with
  | array m e => simp only; cases tyA P e <;> simp [plus]
  | _ => rfl
def idxS (P : Program) (o : Option TyA) (sz id off len : Nat) (n : Int) : Option AV := match o with
 | some ti => match ti.kind with
  | .slice e => match tyA P e with
   | some te => if 0 ≤ n ∧ n < len ∧ sz = te.size then some (.ptr id (off + n.toNat * sz)) else none
   | none => none
  | _ => none
 | none => none
theorem idxA_sl (P : Program) (t : TypeId) (sz id off len : Nat) (k : IntKind) (n : Int) : indexAddrA P t (.sl sz id off len) (.int k n) = idxS P (tyA P t) sz id off len n := by
 unfold indexAddrA idxS; cases tyA P t with
 | none => rfl
 | some ti =>
  simp only
  cases ti.kind with
  | array m e => simp only; cases tyA P e <;> simp [plus]
  | _ => rfl
end Go.Av
namespace Go.Av
theorem wkI1 (k : IntKind) (x : Int) (tl : Tail) : wkV (.dl 1 (List.map (AV.int k) [x]) .none) (.dl 1 [.int k x] tl) := wkV.tail 1 _ tl
theorem wkI2 (k : IntKind) (x y : Int) (tl : Tail) : wkV (.dl 1 (List.map (AV.int k) [x, y]) .none) (.dl 1 [.int k x, .int k y] tl) := wkV.tail 1 _ tl
theorem wkI3 (k : IntKind) (x y z : Int) (tl : Tail) : wkV (.dl 1 (List.map (AV.int k) [x, y, z]) .none) (.dl 1 [.int k x, .int k y, .int k z] tl) := wkV.tail 1 _ tl
end Go.Av
end
