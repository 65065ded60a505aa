/- the layer over the model, part 11 -/
import Derived.Test.YtcgndadlcgnilaaGreatA10
set_option autoImplicit false
set_option linter.unusedSimpArgs false
set_option linter.unusedVariables false
set_option linter.unnecessarySimpa false
section
set_option linter.unusedSimpArgs false
set_option linter.unusedVariables false
namespace Go.Av
open Go.RowKit

section
variable {P : Program} {B : Nat} {w0 : World} {H : AHeap} {μ μ' : Nat → Nat × Nat} {Z Z' : Nat → Nat → Prop} {w w' : World} {n n' : Nat}

theorem OR.keep {id : Nat} {o : AObj} (h : OR B μ Z w n id o) (hid : id < n) (hn : n ≤ n') (hm : ∀ i, i < n → μ' i = μ i) (hz : ∀ c o, Z c o → Z' c o)
  (hc : ∀ c o, Z c o → w'.cell? ⟨c, o, none⟩ = w.cell? ⟨c, o, none⟩) (hs : ∀ c, c < w.heap.size → w'.shape? c = w.shape? c) (hsz : w.heap.size ≤ w'.heap.size)
  (hb : o.alive = true → w'.heap[(μ id).1]? = w.heap[(μ id).1]?) (hzb : ∀ off, Z' (μ id).1 off → Z (μ id).1 off) : OR B μ' Z' w' n' id o := by
 have hmi := hm id hid
 cases o with
 | dead => trivial
 | cells cs =>
  obtain ⟨h1, h2, ccs, e, fr, h3, h4, h5, h6⟩ := h
  have hb := hb rfl
  rw [OR, hmi]
  refine ⟨h1, fun o ho => h2 o (hzb o ho), ccs, e, fr, hb.trans h3, fun o ho => (World.frozen?_of_block (a := ⟨(μ id).1, o, none⟩) hb).trans (h4 o ho), h5, fun j v hj => ?_⟩
  obtain ⟨v', k1, k2, k3⟩ := h6 j v hj
  exact ⟨v', k1, k2, k3.mono hn hm hz hc hs⟩
 | tok =>
  obtain ⟨h1, h2, ccs, e, fr, h3, h4⟩ := h
  have hb := hb rfl
  rw [OR, hmi]
  exact ⟨h1, fun o ho => h2 o (hzb o ho), ccs, e, fr, hb.trans h3, fun o ho => (World.frozen?_of_block (a := ⟨(μ id).1, o, none⟩) hb).trans (h4 o ho)⟩
 | map es =>
  obtain ⟨h1, mes, clock, h2, h3, h4, h5, h6⟩ := h
  have hb := hb rfl
  rw [OR, hmi]
  refine ⟨h1, mes, clock, hb.trans h2, h3, h4, h5, fun j k v hj => ?_⟩
  obtain ⟨e, k1, k2, k3⟩ := h6 j k v hj
  exact ⟨e, k1, k2.mono hn hm hz hc hs, k3.mono hn hm hz hc hs⟩
 | loop env ps assign body pending ready =>
  obtain ⟨h1, r, h2, h3, h4, h5, h6, h7, h8⟩ := h
  have hb := hb rfl
  rw [OR, hmi]
  exact ⟨h1, r, hb.trans h2, h3, h4, h5, h6, h7, h8.mono hn hm hz hc hs⟩

theorem R.lt (hR : R B w0 μ Z H w) {id : Nat} {o : AObj} (h : H[id]? = some o) (ha : o.alive = true) : (μ id).1 < w.heap.size := by
 have ho := hR.obj id o h
 have key : ∀ {x : Obj}, w.heap[(μ id).1]? = some x → (μ id).1 < w.heap.size := fun hx => (Array.getElem?_eq_some_iff.1 hx).1
 cases o with
 | dead => cases ha
 | cells cs => obtain ⟨_, _, _, _, _, h1, _⟩ := ho; exact key h1
 | tok => obtain ⟨_, _, _, _, _, h1, _⟩ := ho; exact key h1
 | map es => obtain ⟨_, _, _, h1, _⟩ := ho; exact key h1
 | loop => obtain ⟨_, _, h1, _⟩ := ho; exact key h1

theorem R.base (hR : R B w0 μ Z H w) {id : Nat} {o : AObj} (h : H[id]? = some o) (ha : o.alive = true) : B ≤ (μ id).1 := by
 have ho := hR.obj id o h
 cases o with
 | dead => cases ha
 | cells cs => exact ho.1
 | tok => exact ho.1
 | map es => exact ho.1
 | loop => exact ho.1

theorem shape_alloc (w : World) (o : Obj) (c : Nat) (h : c < w.heap.size) : (w.alloc o).shape? c = w.shape? c := by
 unfold World.shape?; rw [Below.heap_alloc w o c h]
theorem cell_alloc (w : World) (o : Obj) (c k : Nat) (h : c < w.heap.size) : (w.alloc o).cell? ⟨c, k, none⟩ = w.cell? ⟨c, k, none⟩ :=
 World.cell?_of_block (Below.heap_alloc w o c h)

theorem deferred_lt {D : Nat} {ds : Option (List Deferred)} (h : w.heap[D]? = some (.deferred ds)) : D < w.heap.size := (Array.getElem?_eq_some_iff.1 h).1

/-- The map of blocks with one more. -/
def ext (μ : Nat → Nat × Nat) (n : Nat) (p : Nat × Nat) : Nat → Nat × Nat := fun i => if i = n then p else μ i
theorem ext_lt {n : Nat} {p : Nat × Nat} {i : Nat} (h : i < n) : ext μ n p i = μ i := by unfold ext; rw [if_neg (by omega)]
theorem ext_eq {n : Nat} {p : Nat × Nat} : ext μ n p n = p := by unfold ext; rw [if_pos rfl]

/-- A NEW BLOCK THAT IS NOBODY's BUT THE CALL's OWN (a part of it may be frozen at once). -/
theorem R.pushZ (hR : R B w0 μ Z H w) (o : AObj) (ob : Obj) (off : Nat) (Z' : Nat → Nat → Prop) (hZ : ∀ c k, Z c k → Z' c k) (hZ' : ∀ c k, Z' c k → Z c k ∨ c = w.heap.size) (hal : o.alive = true)
  (ho : ∀ μ', (∀ i, i < H.length → μ' i = μ i) → μ' H.length = (w.heap.size, off) → OR B μ' Z' (w.alloc ob) (H.length + 1) H.length o) :
  R B w0 (ext μ H.length (w.heap.size, off)) Z' (H ++ [o]) (w.alloc ob) ∧ Ev μ Z H w (ext μ H.length (w.heap.size, off)) Z' (H ++ [o]) (w.alloc ob) := by
 have hsz : (w.alloc ob).heap.size = w.heap.size + 1 := by simp
 have hz : ∀ c o, Z c o → (w.alloc ob).cell? ⟨c, o, none⟩ = w.cell? ⟨c, o, none⟩ := fun c o h => cell_alloc w ob c o (hR.zlt c o h)
 refine ⟨⟨hR.below.alloc hR.hB ob, by have := hR.hB; omega, ?_, ?_, ?_⟩, ?_⟩
 ·intro c o h
  rcases hZ' c o h with h | h
  ·have := hR.zlt c o h; omega
  ·omega
 ·intro id oo hid
  rw [List.length_append, List.length_singleton]
  by_cases hlt : id < H.length
  ·rw [List.getElem?_append_left hlt] at hid
   by_cases haa : oo.alive = true
   ·have hbl := hR.lt hid haa
    refine OR.keep (hR.obj id oo hid) hlt (by omega) (fun i hi => ext_lt hi) hZ hz (fun c hc => shape_alloc w ob c hc) (by omega) ?_ ?_
    ·intro ha; exact Below.heap_alloc w ob _ hbl
    ·intro k hk
     rcases hZ' _ _ hk with h | h
     ·exact h
     ·omega
   ·cases oo <;> first | trivial | exact absurd rfl haa
  ·have he : id = H.length := by
    have := (List.getElem?_eq_some_iff.1 hid).1
    simp at this; omega
   subst he
   simp at hid
   subst hid
   exact ho _ (fun i hi => ext_lt hi) ext_eq
 ·intro i j oi oj hi hj hai haj he
  have hli := (List.getElem?_eq_some_iff.1 hi).1
  have hlj := (List.getElem?_eq_some_iff.1 hj).1
  simp at hli hlj
  by_cases h1 : i < H.length
  ·by_cases h2 : j < H.length
   ·rw [List.getElem?_append_left h1] at hi
    rw [List.getElem?_append_left h2] at hj
    rw [ext_lt h1, ext_lt h2] at he
    exact hR.inj i j oi oj hi hj hai haj he
   ·have : j = H.length := by omega
    subst this
    rw [ext_lt h1, ext_eq] at he
    rw [List.getElem?_append_left h1] at hi
    have := hR.lt hi hai
    simp only at he
    omega
  ·have : i = H.length := by omega
   subst this
   by_cases h2 : j < H.length
   ·rw [ext_lt h2, ext_eq] at he
    rw [List.getElem?_append_left h2] at hj
    have := hR.lt hj haj
    simp only at he
    omega
   ·omega
 ·refine ⟨by simp, fun i hi => ext_lt hi, hZ, hz, fun c hc => shape_alloc w ob c hc, by omega, fun c hc _ => Below.heap_alloc w ob c hc, ?_, fun c o h => (hZ' c o h).imp id (fun e => .inl (by omega))⟩
  intro id oo hid ha
  have hli := (List.getElem?_eq_some_iff.1 hid).1
  simp at hli
  by_cases h1 : id < H.length
  ·rw [List.getElem?_append_left h1] at hid
   exact .inr ⟨id, oo, hid, ha, by rw [ext_lt h1]⟩
  ·have : id = H.length := by omega
   subst this
   left; rw [ext_eq]; exact Nat.le_refl _

theorem R.push (hR : R B w0 μ Z H w) (o : AObj) (ob : Obj) (hal : o.alive = true)
  (ho : ∀ μ', (∀ i, i < H.length → μ' i = μ i) → μ' H.length = (w.heap.size, 0) → OR B μ' Z (w.alloc ob) (H.length + 1) H.length o) :
  R B w0 (ext μ H.length (w.heap.size, 0)) Z (H ++ [o]) (w.alloc ob) ∧ Ev μ Z H w (ext μ H.length (w.heap.size, 0)) Z (H ++ [o]) (w.alloc ob) :=
 hR.pushZ o ob 0 Z (fun _ _ h => h) (fun _ _ h => .inl h) hal ho

/-- A NEW BLOCK THAT NOBODY WRITES. -/
theorem R.frost (hR : R B w0 μ Z H w) (ccs : Array Value) (e : TypeId) :
  let Z' := fun c o => Z c o ∨ (c = w.heap.size ∧ o < ccs.size)
  R B w0 μ Z' H (w.alloc (.cells ccs e)) ∧ Ev μ Z H w μ Z' H (w.alloc (.cells ccs e)) := by
 intro Z'
 have hsz : (w.alloc (.cells ccs e)).heap.size = w.heap.size + 1 := by simp
 have hz : ∀ c o, Z c o → (w.alloc (.cells ccs e)).cell? ⟨c, o, none⟩ = w.cell? ⟨c, o, none⟩ := fun c o h => cell_alloc w _ c o (hR.zlt c o h)
 refine ⟨⟨hR.below.alloc hR.hB _, by have := hR.hB; omega, ?_, ?_, hR.inj⟩, ?_⟩
 ·rintro c o (h | ⟨rfl, _⟩)
  ·have := hR.zlt c o h; omega
  ·omega
 ·intro id oo hid
  have hlt := (List.getElem?_eq_some_iff.1 hid).1
  by_cases ha : oo.alive = true
  ·have hb := hR.lt hid ha
   refine OR.keep (hR.obj id oo hid) hlt (Nat.le_refl _) (fun _ _ => rfl) (fun _ _ h => .inl h) hz (fun c hc => shape_alloc w _ c hc) (by omega) ?_ ?_
   ·intro _; exact Below.heap_alloc w _ _ hb
   ·rintro off (h | ⟨h, _⟩)
    ·exact h
    ·omega
  ·cases oo <;> first | trivial | exact absurd rfl ha
 ·exact ⟨Nat.le_refl _, fun _ _ => rfl, fun _ _ h => .inl h, hz, fun c hc => shape_alloc w _ c hc, by omega, fun c hc _ => Below.heap_alloc w _ c hc, fun id o h ha => .inr ⟨id, o, h, ha, rfl⟩, fun c o h => h.imp id (fun h => .inl (by omega))⟩

theorem R.drew (hR : R B w0 μ Z H w) : R B w0 μ Z H w.drew := by
 refine ⟨hR.below.drew, hR.hB, hR.zlt, fun id o h => ?_, hR.inj⟩
 have hlt := (List.getElem?_eq_some_iff.1 h).1
 exact OR.keep (hR.obj id o h) hlt (Nat.le_refl _) (fun _ _ => rfl) (fun _ _ h => h) (fun _ _ _ => rfl) (fun _ _ => rfl) (Nat.le_refl _) (fun _ => rfl) (fun _ h => h)
theorem Ev.drew : Ev μ Z H w μ Z H w.drew := ⟨Nat.le_refl _, fun _ _ => rfl, fun _ _ h => h, fun _ _ _ => rfl, fun _ _ => rfl, Nat.le_refl _, fun _ _ _ => rfl, fun id o h ha => .inr ⟨id, o, h, ha, rfl⟩, fun _ _ h => .inl h⟩

/-- What nobody needs any more may be struck. -/
def Sub (H' H : AHeap) : Prop := H'.length = H.length ∧ ∀ (i : Nat) (o : AObj), H'[i]? = some o → o.alive = true → H[i]? = some o
theorem R.sub {H' : AHeap} (hR : R B w0 μ Z H w) (hs : Sub H' H) : R B w0 μ Z H' w := by
 refine ⟨hR.below, hR.hB, hR.zlt, fun id o h => ?_, fun i j oi oj hi hj hai haj he => hR.inj i j oi oj (hs.2 i oi hi hai) (hs.2 j oj hj haj) hai haj he⟩
 rw [hs.1]
 by_cases ha : o.alive = true
 ·exact hR.obj id o (hs.2 id o h ha)
 ·cases o <;> first | trivial | exact absurd rfl ha
theorem Ev.sub {H' : AHeap} (hs : Sub H' H) : Ev μ Z H w μ Z H' w :=
 ⟨by rw [hs.1]; exact Nat.le_refl _, fun _ _ => rfl, fun _ _ h => h, fun _ _ _ => rfl, fun _ _ => rfl, Nat.le_refl _, fun _ _ _ => rfl, fun id o h ha => .inr ⟨id, o, hs.2 id o h ha, ha, rfl⟩, fun _ _ h => .inl h⟩
end
end Go.Av
end
