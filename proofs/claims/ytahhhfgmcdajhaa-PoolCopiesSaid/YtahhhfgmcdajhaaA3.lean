/- the layer over the model, part 3 -/
import Derived.Laws.IdiomCopy
import Derived.Test.YtahhhfgmcdajhaaA2
set_option autoImplicit false
set_option linter.unusedSimpArgs false
set_option linter.unusedVariables false
set_option linter.unnecessarySimpa false
section
set_option linter.unusedSimpArgs false
set_option linter.unusedVariables false
namespace Go.Av
open Go.RowKit

section
variable {P : Program} {B : Nat} {w0 : World} {H : AHeap} {μ μ' : Nat → Nat × Nat} {Z Z' : Nat → Nat → Prop} {w w' : World} {n n' : Nat}

theorem OR.keep {id : Nat} {o : AObj} (h : OR B μ Z w n id o) (hid : id < n) (hn : n ≤ n') (hm : ∀ i, i < n → μ' i = μ i) (hz : ∀ c o, Z c o → Z' c o)
  (hc : ∀ c o, Z c o → w'.cell? ⟨c, o, none⟩ = w.cell? ⟨c, o, none⟩) (hs : ∀ c, c < w.heap.size → w'.shape? c = w.shape? c) (hsz : w.heap.size ≤ w'.heap.size)
  (hb : o.alive = true → w'.heap[(μ id).1]? = w.heap[(μ id).1]?) (hzb : ∀ off, Z' (μ id).1 off → Z (μ id).1 off) : OR B μ' Z' w' n' id o := by
 have hmi := hm id hid
 cases o with
 | dead => trivial
 | cells cs =>
  obtain ⟨h1, h2, ccs, e, fr, h3, h4, h5, h6⟩ := h
  have hb := hb rfl
  rw [OR, hmi]
  refine ⟨h1, fun o ho => h2 o (hzb o ho), ccs, e, fr, hb.trans h3, fun o ho => (World.frozen?_of_block (a := ⟨(μ id).1, o, none⟩) hb).trans (h4 o ho), h5, fun j v hj => ?_⟩
  obtain ⟨v', k1, k2, k3⟩ := h6 j v hj
  exact ⟨v', k1, k2, k3.mono hn hm hz hc hs⟩
 | tok =>
  obtain ⟨h1, h2, ccs, e, fr, h3, h4⟩ := h
  have hb := hb rfl
  rw [OR, hmi]
  exact ⟨h1, fun o ho => h2 o (hzb o ho), ccs, e, fr, hb.trans h3, fun o ho => (World.frozen?_of_block (a := ⟨(μ id).1, o, none⟩) hb).trans (h4 o ho)⟩
 | map es clock =>
  obtain ⟨h1, mes, h2, h3, h6⟩ := h
  have hb := hb rfl
  rw [OR, hmi]
  refine ⟨h1, mes, hb.trans h2, h3, fun j b k v hj => ?_⟩
  obtain ⟨e, k1, k0, k2, k3⟩ := h6 j b k v hj
  exact ⟨e, k1, k0, k2.mono hn hm hz hc hs, k3.mono hn hm hz hc hs⟩
 | iter m since seen last =>
  obtain ⟨h1, h2, h3, h4⟩ := h
  have hb := hb rfl
  rw [OR, hmi, hm m h3]
  exact ⟨h1, h2, Nat.lt_of_lt_of_le h3 hn, hb.trans h4⟩
 | loop env ps assign body pending ready =>
  obtain ⟨h1, r, h2, h3, h4, h5, h6, h7, h8⟩ := h
  have hb := hb rfl
  rw [OR, hmi]
  exact ⟨h1, r, hb.trans h2, h3, h4, h5, h6, h7, h8.mono hn hm hz hc hs⟩

theorem R.lt (hR : R B w0 μ Z H w) {id : Nat} {o : AObj} (h : H[id]? = some o) (ha : o.alive = true) : (μ id).1 < w.heap.size := by
 have ho := hR.obj id o h
 have key : ∀ {x : Obj}, w.heap[(μ id).1]? = some x → (μ id).1 < w.heap.size := fun hx => (Array.getElem?_eq_some_iff.1 hx).1
 cases o with
 | dead => cases ha
 | cells cs => obtain ⟨_, _, _, _, _, h1, _⟩ := ho; exact key h1
 | tok => obtain ⟨_, _, _, _, _, h1, _⟩ := ho; exact key h1
 | map es => obtain ⟨_, _, h1, _⟩ := ho; exact key h1
 | iter => obtain ⟨_, _, _, h1⟩ := ho; exact key h1
 | loop => obtain ⟨_, _, h1, _⟩ := ho; exact key h1

theorem R.base (hR : R B w0 μ Z H w) {id : Nat} {o : AObj} (h : H[id]? = some o) (ha : o.alive = true) : B ≤ (μ id).1 := by
 have ho := hR.obj id o h
 cases o with
 | dead => cases ha
 | cells cs => exact ho.1
 | tok => exact ho.1
 | map es => exact ho.1
 | iter => exact ho.1
 | loop => exact ho.1

theorem shape_alloc (w : World) (o : Obj) (c : Nat) (h : c < w.heap.size) : (w.alloc o).shape? c = w.shape? c := by
 unfold World.shape?; rw [Below.heap_alloc w o c h]
theorem cell_alloc (w : World) (o : Obj) (c k : Nat) (h : c < w.heap.size) : (w.alloc o).cell? ⟨c, k, none⟩ = w.cell? ⟨c, k, none⟩ :=
 World.cell?_of_block (Below.heap_alloc w o c h)

theorem deferred_lt {D : Nat} {ds : Option (List Deferred)} (h : w.heap[D]? = some (.deferred ds)) : D < w.heap.size := (Array.getElem?_eq_some_iff.1 h).1

/-- The map of blocks with one more. -/
def ext (μ : Nat → Nat × Nat) (n : Nat) (p : Nat × Nat) : Nat → Nat × Nat := fun i => if i = n then p else μ i
theorem ext_lt {n : Nat} {p : Nat × Nat} {i : Nat} (h : i < n) : ext μ n p i = μ i := by unfold ext; rw [if_neg (by omega)]
theorem ext_eq {n : Nat} {p : Nat × Nat} : ext μ n p n = p := by unfold ext; rw [if_pos rfl]

/-- A NEW BLOCK THAT IS NOBODY's BUT THE CALL's OWN (a part of it may be frozen at once). -/
theorem R.pushZ (hR : R B w0 μ Z H w) (o : AObj) (ob : Obj) (off : Nat) (Z' : Nat → Nat → Prop) (hZ : ∀ c k, Z c k → Z' c k) (hZ' : ∀ c k, Z' c k → Z c k ∨ c = w.heap.size) (hal : o.alive = true)
  (ho : ∀ μ', (∀ i, i < H.length → μ' i = μ i) → μ' H.length = (w.heap.size, off) → OR B μ' Z' (w.alloc ob) (H.length + 1) H.length o) :
  R B w0 (ext μ H.length (w.heap.size, off)) Z' (H ++ [o]) (w.alloc ob) ∧ Ev μ Z H w (ext μ H.length (w.heap.size, off)) Z' (H ++ [o]) (w.alloc ob) := by
 have hsz : (w.alloc ob).heap.size = w.heap.size + 1 := by simp
 have hz : ∀ c o, Z c o → (w.alloc ob).cell? ⟨c, o, none⟩ = w.cell? ⟨c, o, none⟩ := fun c o h => cell_alloc w ob c o (hR.zlt c o h)
 refine ⟨⟨hR.below.alloc hR.hB ob, by have := hR.hB; omega, ?_, ?_, ?_⟩, ?_⟩
 ·intro c o h
  rcases hZ' c o h with h | h
  ·have := hR.zlt c o h; omega
  ·omega
 ·intro id oo hid
  rw [List.length_append, List.length_singleton]
  by_cases hlt : id < H.length
  ·rw [List.getElem?_append_left hlt] at hid
   by_cases haa : oo.alive = true
   ·have hbl := hR.lt hid haa
    refine OR.keep (hR.obj id oo hid) hlt (by omega) (fun i hi => ext_lt hi) hZ hz (fun c hc => shape_alloc w ob c hc) (by omega) ?_ ?_
    ·intro ha; exact Below.heap_alloc w ob _ hbl
    ·intro k hk
     rcases hZ' _ _ hk with h | h
     ·exact h
     ·omega
   ·cases oo <;> first | trivial | exact absurd rfl haa
  ·have he : id = H.length := by
    have := (List.getElem?_eq_some_iff.1 hid).1
    simp at this; omega
   subst he
   simp at hid
   subst hid
   exact ho _ (fun i hi => ext_lt hi) ext_eq
 ·intro i j oi oj hi hj hai haj he
  have hli := (List.getElem?_eq_some_iff.1 hi).1
  have hlj := (List.getElem?_eq_some_iff.1 hj).1
  simp at hli hlj
  by_cases h1 : i < H.length
  ·by_cases h2 : j < H.length
   ·rw [List.getElem?_append_left h1] at hi
    rw [List.getElem?_append_left h2] at hj
    rw [ext_lt h1, ext_lt h2] at he
    exact hR.inj i j oi oj hi hj hai haj he
   ·have : j = H.length := by omega
    subst this
    rw [ext_lt h1, ext_eq] at he
    rw [List.getElem?_append_left h1] at hi
    have := hR.lt hi hai
    simp only at he
    omega
  ·have : i = H.length := by omega
   subst this
   by_cases h2 : j < H.length
   ·rw [ext_lt h2, ext_eq] at he
    rw [List.getElem?_append_left h2] at hj
    have := hR.lt hj haj
    simp only at he
    omega
   ·omega
 ·refine ⟨by simp, fun i hi => ext_lt hi, hZ, hz, fun c hc => shape_alloc w ob c hc, by omega, fun c hc _ => Below.heap_alloc w ob c hc, ?_, fun c o h => (hZ' c o h).imp id (fun e => .inl (by omega))⟩
  intro id oo hid ha
  have hli := (List.getElem?_eq_some_iff.1 hid).1
  simp at hli
  by_cases h1 : id < H.length
  ·rw [List.getElem?_append_left h1] at hid
   exact .inr ⟨id, oo, hid, ha, by rw [ext_lt h1]⟩
  ·have : id = H.length := by omega
   subst this
   left; rw [ext_eq]; exact Nat.le_refl _

theorem R.push (hR : R B w0 μ Z H w) (o : AObj) (ob : Obj) (hal : o.alive = true)
  (ho : ∀ μ', (∀ i, i < H.length → μ' i = μ i) → μ' H.length = (w.heap.size, 0) → OR B μ' Z (w.alloc ob) (H.length + 1) H.length o) :
  R B w0 (ext μ H.length (w.heap.size, 0)) Z (H ++ [o]) (w.alloc ob) ∧ Ev μ Z H w (ext μ H.length (w.heap.size, 0)) Z (H ++ [o]) (w.alloc ob) :=
 hR.pushZ o ob 0 Z (fun _ _ h => h) (fun _ _ h => .inl h) hal ho

/-- A NEW BLOCK THAT NOBODY WRITES. -/
theorem R.frost (hR : R B w0 μ Z H w) (ccs : Array Value) (e : TypeId) :
  let Z' := fun c o => Z c o ∨ (c = w.heap.size ∧ o < ccs.size)
  R B w0 μ Z' H (w.alloc (.cells ccs e)) ∧ Ev μ Z H w μ Z' H (w.alloc (.cells ccs e)) := by
 intro Z'
 have hsz : (w.alloc (.cells ccs e)).heap.size = w.heap.size + 1 := by simp
 have hz : ∀ c o, Z c o → (w.alloc (.cells ccs e)).cell? ⟨c, o, none⟩ = w.cell? ⟨c, o, none⟩ := fun c o h => cell_alloc w _ c o (hR.zlt c o h)
 refine ⟨⟨hR.below.alloc hR.hB _, by have := hR.hB; omega, ?_, ?_, hR.inj⟩, ?_⟩
 ·rintro c o (h | ⟨rfl, _⟩)
  ·have := hR.zlt c o h; omega
  ·omega
 ·intro id oo hid
  have hlt := (List.getElem?_eq_some_iff.1 hid).1
  by_cases ha : oo.alive = true
  ·have hb := hR.lt hid ha
   refine OR.keep (hR.obj id oo hid) hlt (Nat.le_refl _) (fun _ _ => rfl) (fun _ _ h => .inl h) hz (fun c hc => shape_alloc w _ c hc) (by omega) ?_ ?_
   ·intro _; exact Below.heap_alloc w _ _ hb
   ·rintro off (h | ⟨h, _⟩)
    ·exact h
    ·omega
  ·cases oo <;> first | trivial | exact absurd rfl ha
 ·exact ⟨Nat.le_refl _, fun _ _ => rfl, fun _ _ h => .inl h, hz, fun c hc => shape_alloc w _ c hc, by omega, fun c hc _ => Below.heap_alloc w _ c hc, fun id o h ha => .inr ⟨id, o, h, ha, rfl⟩, fun c o h => h.imp id (fun h => .inl (by omega))⟩

theorem R.drew (hR : R B w0 μ Z H w) : R B w0 μ Z H w.drew := by
 refine ⟨hR.below.drew, hR.hB, hR.zlt, fun id o h => ?_, hR.inj⟩
 have hlt := (List.getElem?_eq_some_iff.1 h).1
 exact OR.keep (hR.obj id o h) hlt (Nat.le_refl _) (fun _ _ => rfl) (fun _ _ h => h) (fun _ _ _ => rfl) (fun _ _ => rfl) (Nat.le_refl _) (fun _ => rfl) (fun _ h => h)
theorem Ev.drew : Ev μ Z H w μ Z H w.drew := ⟨Nat.le_refl _, fun _ _ => rfl, fun _ _ h => h, fun _ _ _ => rfl, fun _ _ => rfl, Nat.le_refl _, fun _ _ _ => rfl, fun id o h ha => .inr ⟨id, o, h, ha, rfl⟩, fun _ _ h => .inl h⟩

/-- What nobody needs any more may be struck. -/
def Sub (H' H : AHeap) : Prop := H'.length = H.length ∧ ∀ (i : Nat) (o : AObj), H'[i]? = some o → o.alive = true → H[i]? = some o
theorem R.sub {H' : AHeap} (hR : R B w0 μ Z H w) (hs : Sub H' H) : R B w0 μ Z H' w := by
 refine ⟨hR.below, hR.hB, hR.zlt, fun id o h => ?_, fun i j oi oj hi hj hai haj he => hR.inj i j oi oj (hs.2 i oi hi hai) (hs.2 j oj hj haj) hai haj he⟩
 rw [hs.1]
 by_cases ha : o.alive = true
 ·exact hR.obj id o (hs.2 id o h ha)
 ·cases o <;> first | trivial | exact absurd rfl ha
theorem Ev.sub {H' : AHeap} (hs : Sub H' H) : Ev μ Z H w μ Z H' w :=
 ⟨by rw [hs.1]; exact Nat.le_refl _, fun _ _ => rfl, fun _ _ h => h, fun _ _ _ => rfl, fun _ _ => rfl, Nat.le_refl _, fun _ _ _ => rfl, fun id o h ha => .inr ⟨id, o, hs.2 id o h ha, ha, rfl⟩, fun _ _ h => .inl h⟩
end
end Go.Av
end

section
set_option linter.unusedSimpArgs false
set_option linter.unusedVariables false
namespace Go.Av
open Go.RowKit

/-- Values of one cell. -/
def AV.one : AV → Bool
 | .undef => false
 | .agg _ => false
 | .tup _ => false
 | _ => true

section
variable {P : Program} {B : Nat} {w0 : World} {a : List AV} {H : AHeap} {μ μ' : Nat → Nat × Nat} {Z Z' : Nat → Nat → Prop} {w w' : World} {n n' : Nat}
variable {x y i v : AV} {cx cy ci : Value} {t : TypeId}

theorem VR.one (hx : VR μ Z w n x cx) (h : x.one = true) : cx.oneCell' = true := by
 cases hx <;> first | rfl | (cases h; done)

/-- The cells of a block against a list. -/
def CR (μ : Nat → Nat × Nat) (Z : Nat → Nat → Prop) (w : World) (n : Nat) (cs : List AV) (ccs : Array Value) (base : Nat) : Prop :=
 base + cs.length ≤ ccs.size ∧ ∀ (j : Nat) (v : AV), cs[j]? = some v → ∃ v', ccs[base + j]? = some v' ∧ v'.oneCell' = true ∧ VR μ Z w n v v'

theorem CR.of_vrs {cs : List AV} {ccs : Array Value} (h : VRs μ Z w n cs ccs) (h1 : cs.all AV.one = true) : CR μ Z w n cs ccs 0 := by
 refine ⟨by have := h.1; omega, fun j v hj => ?_⟩
 obtain ⟨v', k1, k2⟩ := h.2 j v hj
 exact ⟨v', by simpa using k1, k2.one (List.all_eq_true.1 h1 v (List.mem_of_getElem? hj)), k2⟩

theorem CR.mono {cs : List AV} {ccs : Array Value} {base : Nat} (h : CR μ Z w n cs ccs base) (hn : n ≤ n') (hm : ∀ i, i < n → μ' i = μ i) (hz : ∀ c o, Z c o → Z' c o)
  (hc : ∀ c o, Z c o → w'.cell? ⟨c, o, none⟩ = w.cell? ⟨c, o, none⟩) (hs : ∀ c, c < w.heap.size → w'.shape? c = w.shape? c) : CR μ' Z' w' n' cs ccs base :=
 ⟨h.1, fun j v hj => let ⟨v', k1, k2, k3⟩ := h.2 j v hj; ⟨v', k1, k2, k3.mono hn hm hz hc hs⟩⟩

/-- A new variable. -/
theorem new_cells (hR : R B w0 μ Z H w) {cs : List AV} {ccs : Array Value} (e : TypeId) (hc : CR μ Z w H.length cs ccs 0) :
  R B w0 (ext μ H.length (w.heap.size, 0)) Z (H ++ [.cells cs]) (w.alloc (.cells ccs e)) ∧ Ev μ Z H w (ext μ H.length (w.heap.size, 0)) Z (H ++ [.cells cs]) (w.alloc (.cells ccs e)) := by
 refine hR.push (.cells cs) (.cells ccs e) rfl ?_
 intro μ' hm he
 have hz : ∀ o, ¬ Z w.heap.size o := fun o h => by have := hR.zlt _ _ h; omega
 refine ⟨by rw [he]; exact hR.hB, by rw [he]; exact hz, ccs, e, (0, 0), by rw [he]; exact heap_alloc_new w _, ?_, ?_, ?_⟩
 ·intro o _
  rw [he]
  have : (w.alloc (.cells ccs e)).heap[w.heap.size]? = some (.cells ccs e (0, 0)) := heap_alloc_new w _
  simp only [World.frozen?, this]
  simp
 ·rw [he]; exact hc.1
 ·intro j v hj
  obtain ⟨v', k1, k2, k3⟩ := hc.2 j v hj
  refine ⟨v', by rw [he]; exact k1, k2, k3.mono (by omega) hm (fun _ _ h => h) (fun c o h => cell_alloc w _ c o (hR.zlt c o h)) (fun c hc => shape_alloc w _ c hc)⟩

/-- The pointer to it. -/
theorem new_ptr : VR (ext μ H.length (w.heap.size, 0)) Z w' (H.length + 1) (.ptr H.length 0) (.pointer (some ⟨w.heap.size, 0, none⟩)) := by
 have := VR.ptr (μ := ext μ H.length (w.heap.size, 0)) (Z := Z) (w := w') (n := H.length + 1) H.length 0 (by omega)
 rw [ext_eq] at this
 exact this

/-! ### a store -/
def putA (cs : List AV) (off : Nat) (vs : List AV) : List AV := cs.take off ++ vs ++ cs.drop (off + vs.length)

theorem setCells_block (b : Nat) : ∀ (vs : List Value) (o : Nat) (w : World) (cs : Array Value) (e : TypeId) (fr : Nat × Nat), w.heap[b]? = some (.cells cs e fr) →
  ∃ cs', (w.setCells b o vs).heap[b]? = some (.cells cs' e fr) ∧ cs'.size = cs.size ∧ (∀ k : Nat, o + vs.length ≤ cs.size → cs'[k]? = if o ≤ k ∧ k < o + vs.length then vs[k - o]? else cs[k]?) ∧
   (∀ k : Nat, k ≠ b → (w.setCells b o vs).heap[k]? = w.heap[k]?) ∧ (w.setCells b o vs).heap.size = w.heap.size ∧ (w.setCells b o vs).os = w.os ∧ (w.setCells b o vs).tape = w.tape ∧ (w.setCells b o vs).output = w.output
 | [], o, w, cs, e, fr, h => ⟨cs, h, rfl, fun k _ => by simp; omega, fun _ _ => rfl, rfl, rfl, rfl, rfl⟩
 | v :: r, o, w, cs, e, fr, h => by
  have h1 : (w.setCell ⟨b, o, none⟩ v).heap[b]? = some (.cells (cs.setIfInBounds o v) e fr) := by
   simp [World.setCell, Array.getElem?_modify, h]
  obtain ⟨cs', k1, k2, k3, k4, k5, k6, k7, k8⟩ := setCells_block b r (o + 1) _ _ e fr h1
  refine ⟨cs', k1, by simpa using k2, ?_, ?_, ?_, k6, k7, k8⟩
  ·intro k hk
   simp only [List.length_cons] at hk ⊢
   rw [k3 k (by simp; omega)]
   by_cases hko : k = o
   ·subst hko
    rw [if_neg (by omega), if_pos (by omega)]
    have : k < cs.size := by omega
    simp [Array.getElem?_setIfInBounds, this]
   ·by_cases hc : o + 1 ≤ k ∧ k < o + 1 + r.length
    ·rw [if_pos hc, if_pos (by omega), show k - o = (k - (o + 1)) + 1 by omega, List.getElem?_cons_succ]
    ·rw [if_neg hc, if_neg (by omega), Array.getElem?_setIfInBounds, if_neg (by omega)]
  ·intro k hk
   rw [World.setCells, k4 k hk]
   exact Below.heap_setCell _ _ _ _ hk
  ·rw [World.setCells, k5]; simp [World.setCell]

theorem getElem?_set_ne {l : List AObj} {i j : Nat} {o : AObj} (h : i ≠ j) : (l.set i o)[j]? = l[j]? := by rw [List.getElem?_set, if_neg h]

/-- WHAT ONE OF THE CALL's OWN BLOCKS HOLDS IS CHANGED. -/
theorem R.change (hR : R B w0 μ Z H w) {id : Nat} {o o' : AObj} (hid : H[id]? = some o) (ha : o.alive = true)
  (hoth : ∀ k, k < w.heap.size → k ≠ (μ id).1 → w'.heap[k]? = w.heap[k]?) (hsize : w'.heap.size = w.heap.size) (hos : w'.os = w.os) (htape : w'.tape = w.tape) (hout : w'.output = w.output)
  (hzc : ∀ c o, Z c o → w'.cell? ⟨c, o, none⟩ = w.cell? ⟨c, o, none⟩) (hsh : w'.shape? (μ id).1 = w.shape? (μ id).1)
  (ho : (∀ c o, Z c o → w'.cell? ⟨c, o, none⟩ = w.cell? ⟨c, o, none⟩) → (∀ c, c < w.heap.size → w'.shape? c = w.shape? c) → OR B μ Z w' H.length id o') :
  R B w0 μ Z (H.set id o') w' ∧ Ev μ Z H w μ Z (H.set id o') w' := by
 have hlt := hR.lt hid ha
 have hbase := hR.base hid ha
 have hidl := (List.getElem?_eq_some_iff.1 hid).1
 have hshape : ∀ c, c < w.heap.size → w'.shape? c = w.shape? c := by
  intro c hc
  by_cases h : c = (μ id).1
  ·rw [h]; exact hsh
  ·unfold World.shape?; rw [hoth c hc h]
 have hbelow : Below B w0 w' := hR.below.trans ⟨hos, htape, hout, by omega, fun k hk => hoth k (by have := hR.hB; omega) (by omega)⟩
 refine ⟨⟨hbelow, by rw [hsize]; exact hR.hB, fun c o h => by rw [hsize]; exact hR.zlt c o h, ?_, ?_⟩, ?_⟩
 ·intro j oj hj
  rw [List.length_set]
  by_cases hji : id = j
  ·subst hji
   rw [List.getElem?_set_self hidl] at hj
   cases hj
   exact ho hzc hshape
  ·rw [getElem?_set_ne hji] at hj
   have hjl := (List.getElem?_eq_some_iff.1 hj).1
   refine OR.keep (hR.obj j oj hj) hjl (Nat.le_refl _) (fun _ _ => rfl) (fun _ _ h => h) hzc hshape (by omega) ?_ (fun _ h => h)
   intro haj
   exact hoth _ (hR.lt hj haj) (fun e => hji (hR.inj id j o oj hid hj ha haj e.symm))
 ·intro i j oi oj hi hj hai haj he
  have get : ∀ {k : Nat} {ok : AObj}, (H.set id o')[k]? = some ok → ok.alive = true → ∃ ok', H[k]? = some ok' ∧ ok'.alive = true := by
   intro k ok hk hak
   by_cases hki : id = k
   ·subst hki; exact ⟨o, hid, ha⟩
   ·rw [getElem?_set_ne hki] at hk; exact ⟨ok, hk, hak⟩
  obtain ⟨oi', h1, h2⟩ := get hi hai
  obtain ⟨oj', h3, h4⟩ := get hj haj
  exact hR.inj i j oi' oj' h1 h3 h2 h4 he
 ·refine ⟨by simp, fun _ _ => rfl, fun _ _ h => h, hzc, hshape, by omega, ?_, ?_, fun _ _ h => .inl h⟩
  ·intro c hc hu
   exact hoth c hc (fun e => hu id o hid ha e.symm)
  ·intro k ok hk hak
   by_cases hki : id = k
   ·subst hki; exact .inr ⟨id, o, hid, ha, rfl⟩
   ·rw [getElem?_set_ne hki] at hk; exact .inr ⟨k, ok, hk, hak, rfl⟩

/-- AN OBJECT's BLOCK GOES OVER TO ANOTHER OBJECT; a part of it is frozen. -/
theorem R.pass (hR : R B w0 μ Z H w) {t : Nat} {o o' : AObj} (ht : H[t]? = some o) (ha : o.alive = true) (ha' : o'.alive = true) (off : Nat) (Z' : Nat → Nat → Prop)
  (hZ : ∀ c k, Z c k → Z' c k) (hZ' : ∀ c k, Z' c k → Z c k ∨ c = (μ t).1)
  (hoth : ∀ k, k < w.heap.size → k ≠ (μ t).1 → w'.heap[k]? = w.heap[k]?) (hsize : w'.heap.size = w.heap.size) (hos : w'.os = w.os) (htape : w'.tape = w.tape) (hout : w'.output = w.output)
  (hzc : ∀ c o, Z c o → w'.cell? ⟨c, o, none⟩ = w.cell? ⟨c, o, none⟩) (hsh : w'.shape? (μ t).1 = w.shape? (μ t).1)
  (ho : ∀ μ', (∀ i, i < H.length → μ' i = μ i) → μ' H.length = ((μ t).1, off) → OR B μ' Z' w' (H.length + 1) H.length o') :
  R B w0 (ext μ H.length ((μ t).1, off)) Z' (H.set t .dead ++ [o']) w' ∧ Ev μ Z H w (ext μ H.length ((μ t).1, off)) Z' (H.set t .dead ++ [o']) w' := by
 have hlt := hR.lt ht ha
 have hbase := hR.base ht ha
 have htl := (List.getElem?_eq_some_iff.1 ht).1
 have hshape : ∀ c, c < w.heap.size → w'.shape? c = w.shape? c := by
  intro c hc
  by_cases h : c = (μ t).1
  ·rw [h]; exact hsh
  ·unfold World.shape?; rw [hoth c hc h]
 have hbelow : Below B w0 w' := hR.below.trans ⟨hos, htape, hout, by omega, fun k hk => hoth k (by have := hR.hB; omega) (by omega)⟩
 have hlen : (H.set t AObj.dead).length = H.length := by simp
 have old : ∀ {j : Nat} {oj : AObj}, (H.set t AObj.dead ++ [o'])[j]? = some oj → j < H.length → oj.alive = true → j ≠ t ∧ H[j]? = some oj := by
  intro j oj hj hjl haj
  rw [List.getElem?_append_left (by omega)] at hj
  by_cases hjt : t = j
  ·subst hjt
   rw [List.getElem?_set_self htl] at hj
   cases hj; cases haj
  ·rw [getElem?_set_ne hjt] at hj; exact ⟨fun e => hjt e.symm, hj⟩
 refine ⟨⟨hbelow, by rw [hsize]; exact hR.hB, ?_, ?_, ?_⟩, ?_⟩
 ·intro c k h
  rw [hsize]
  rcases hZ' c k h with h | h
  ·exact hR.zlt c k h
  ·omega
 ·intro j oj hj
  rw [List.length_append, List.length_singleton, hlen]
  have hjl := (List.getElem?_eq_some_iff.1 hj).1
  rw [List.length_append, List.length_singleton, hlen] at hjl
  by_cases hjn : j < H.length
  ·by_cases haj : oj.alive = true
   ·obtain ⟨hne, hj'⟩ := old hj hjn haj
    have hneb : (μ j).1 ≠ (μ t).1 := fun e => hne (hR.inj j t oj o hj' ht haj ha e)
    refine OR.keep (hR.obj j oj hj') hjn (by omega) (fun i hi => ext_lt hi) hZ hzc hshape (by omega) ?_ ?_
    ·intro _; exact hoth _ (hR.lt hj' haj) hneb
    ·intro k hk
     rcases hZ' _ _ hk with h | h
     ·exact h
     ·exact absurd h hneb
   ·cases oj <;> first | trivial | exact absurd rfl haj
  ·have he : j = H.length := by omega
   subst he
   have hj2 : (H.set t AObj.dead ++ [o'])[H.length]? = some o' := by
    rw [List.getElem?_append_right (by omega), hlen, Nat.sub_self]; rfl
   rw [hj2] at hj
   cases hj
   exact ho _ (fun i hi => ext_lt hi) ext_eq
 ·intro i j oi oj hi hj hai haj he
  have hil := (List.getElem?_eq_some_iff.1 hi).1
  have hjl := (List.getElem?_eq_some_iff.1 hj).1
  rw [List.length_append, List.length_singleton, hlen] at hil hjl
  by_cases h1 : i < H.length
  ·obtain ⟨k1, k2⟩ := old hi h1 hai
   by_cases h2 : j < H.length
   ·obtain ⟨k3, k4⟩ := old hj h2 haj
    rw [ext_lt h1, ext_lt h2] at he
    exact hR.inj i j oi oj k2 k4 hai haj he
   ·have : j = H.length := by omega
    subst this
    rw [ext_lt h1, ext_eq] at he
    exact absurd (hR.inj i t oi o k2 ht hai ha he) k1
  ·have : i = H.length := by omega
   subst this
   by_cases h2 : j < H.length
   ·obtain ⟨k3, k4⟩ := old hj h2 haj
    rw [ext_lt h2, ext_eq] at he
    exact absurd (hR.inj j t oj o k4 ht haj ha he.symm) k3
   ·omega
 ·refine ⟨by simp, fun i hi => ext_lt hi, hZ, hzc, hshape, by omega, ?_, ?_, fun c k h => (hZ' c k h).imp id (fun e => .inr ⟨t, o, ht, ha, e.symm⟩)⟩
  ·intro c hc hu
   exact hoth c hc (fun e => hu t o ht ha e.symm)
  ·intro k ok hk hak
   have hkl := (List.getElem?_eq_some_iff.1 hk).1
   rw [List.length_append, List.length_singleton, hlen] at hkl
   by_cases h1 : k < H.length
   ·obtain ⟨_, k2⟩ := old hk h1 hak
    exact .inr ⟨k, ok, k2, hak, by rw [ext_lt h1]⟩
   ·have : k = H.length := by omega
    subst this
    exact .inr ⟨t, o, ht, ha, by rw [ext_eq]⟩

/-- Some cells of a variable are written. -/
theorem store_cells (hR : R B w0 μ Z H w) {id : Nat} {cs : List AV} (hid : H[id]? = some (.cells cs)) {off : Nat} {vs : List AV} {cvs : List Value}
  (hl : vs.length = cvs.length) (hoff : off + vs.length ≤ cs.length) (h1 : ∀ (j : Nat) (v : AV), vs[j]? = some v → ∃ v', cvs[j]? = some v' ∧ VR μ Z w H.length v v') (hone : vs.all AV.one = true) :
  (storeCells ⟨(μ id).1, (μ id).2 + off, none⟩ cvs 0).run P w = .ok () (w.setCells (μ id).1 ((μ id).2 + off) cvs) ∧
  R B w0 μ Z (H.set id (.cells (putA cs off vs))) (w.setCells (μ id).1 ((μ id).2 + off) cvs) ∧ Ev μ Z H w μ Z (H.set id (.cells (putA cs off vs))) (w.setCells (μ id).1 ((μ id).2 + off) cvs) := by
 have hlt := (List.getElem?_eq_some_iff.1 hid).1
 obtain ⟨hb, hz, ccs, e, fr, hblk, hfr, hsz, hcs⟩ := hR.obj id _ hid
 have honec : ∀ v, v ∈ cvs → v.oneCell' = true := by
  intro v hv
  obtain ⟨j, hj⟩ := List.getElem?_of_mem hv
  have hjl : j < vs.length := by have := (List.getElem?_eq_some_iff.1 hj).1; omega
  obtain ⟨v', k1, k2⟩ := h1 j vs[j] (List.getElem?_eq_getElem hjl)
  rw [hj] at k1; cases k1
  exact k2.one (List.all_eq_true.1 hone _ (List.getElem_mem hjl))
 have hcell : ∀ k, k < ccs.size → w.cell? ⟨(μ id).1, k, none⟩ = ccs[k]? := fun k _ => cell_of_row w _ _ ccs e fr hblk
 refine ⟨?_, ?_⟩
 ·have := run_storeCells_cells (P := P) (μ id).1 ((μ id).2 + off) cvs 0 w (fun j hj => by
   rw [Nat.add_zero, hcell _ (by omega)]
   simp; omega) (fun j hj => by rw [Nat.add_zero]; exact hfr _ (by omega)) honec
  rw [Nat.add_zero] at this
  exact this
 ·obtain ⟨cs', k1, k2, k3, k4, k5, k6, k7, k8⟩ := setCells_block (μ id).1 cvs ((μ id).2 + off) w ccs e fr hblk
  refine hR.change hid rfl (fun k _ hk => k4 k hk) k5 k6 k7 k8 ?_ ?_ ?_
  ·intro c o hzc
   exact World.cell?_of_block (a := ⟨c, o, none⟩) (k4 c (fun e => hz o (e ▸ hzc)))
  ·unfold World.shape?; rw [k1, hblk]; simp only [k2]
  ·intro hzc hsh
   refine ⟨hb, hz, cs', e, fr, k1, ?_, ?_, ?_⟩
   ·intro o ho
    rw [World.frozen?_setCells]
    exact hfr o (by omega)
   ·simp [putA]; omega
   ·intro j v hj
    rw [k3 _ (by omega)]
    unfold putA at hj
    by_cases hj1 : j < off
    ·rw [if_neg (by omega)]
     rw [List.append_assoc, List.getElem?_append_left (by simp; omega), List.getElem?_take, if_pos hj1] at hj
     obtain ⟨v', q1, q2, q3⟩ := hcs j v hj
     exact ⟨v', q1, q2, q3.mono (Nat.le_refl _) (fun _ _ => rfl) (fun _ _ h => h) hzc hsh⟩
    ·by_cases hj2 : j < off + vs.length
     ·rw [if_pos (by omega)]
      rw [List.append_assoc, List.getElem?_append_right (by simp; omega), List.getElem?_append_left (by simp; omega)] at hj
      have e1 : j - (List.take off cs).length = j - off := by simp; omega
      rw [e1] at hj
      obtain ⟨v', q1, q2⟩ := h1 _ _ hj
      refine ⟨v', by rw [show (μ id).2 + j - ((μ id).2 + off) = j - off by omega]; exact q1, q2.one (List.all_eq_true.1 hone _ (List.mem_of_getElem? hj)), q2.mono (Nat.le_refl _) (fun _ _ => rfl) (fun _ _ h => h) hzc hsh⟩
     ·rw [if_neg (by omega)]
      rw [List.getElem?_append_right (by simp; omega), List.getElem?_drop] at hj
      have e1 : off + vs.length + (j - (List.take off cs ++ vs).length) = j := by simp; omega
      rw [e1] at hj
      obtain ⟨v', q1, q2, q3⟩ := hcs j v hj
      exact ⟨v', q1, q2, q3.mono (Nat.le_refl _) (fun _ _ => rfl) (fun _ _ h => h) hzc hsh⟩
end
end Go.Av
end

section
set_option linter.unusedSimpArgs false
set_option linter.unusedVariables false
namespace Go.Av
open Go.RowKit

/-- What is appended: the elements of a frozen slice, the bytes of a string. -/
def srcA (P : Program) (s : Nat) (t2 : TypeId) (y : AV) : Option (List AV) :=
 match tyA P t2 with
 | some i => match i.kind, y with
  | .slice _, .dl sz ys _ => if sz = s ∨ ys = [] then some ys else none
  | .str, .str b => if s = 1 then some (b.map fun c => .int .u8 (c.toNat : Int)) else none
  | _, _ => none
 | none => none

/-- What is appended, also out of a block of one's own. -/
def SrcP (P : Program) (H : AHeap) (s : Nat) (t2 : TypeId) (y : AV) (ys : List AV) : Prop :=
 srcA P s t2 y = some ys ∨ ∃ ti e id off cs, tyA P t2 = some ti ∧ ti.kind = .slice e ∧ y = .sl s id off ys.length ∧ H[id]? = some (.cells cs) ∧ off + ys.length * s ≤ cs.length ∧ (∀ e, e ∈ ys → e.cells.length = s) ∧ flat ys = (cs.drop off).take (ys.length * s)

def mayGrow (H : AHeap) : Tail → Prop
 | .none => False
 | .full => True
 | .tok t => H[t]? = some .tok

def kill (H : AHeap) : Tail → AHeap
 | .tok t => H.set t .dead
 | _ => H

/-- append to a frozen slice: what is known of its end goes over. -/
def AApp (P : Program) (t t2 : TypeId) (x y : AV) (H : AHeap) (K : AV → AHeap → Prop) : Prop :=
 ∃ ti e te z ys sz es tl, tyA P t = some ti ∧ ti.kind = .slice e ∧ tyA P e = some te ∧ te.zero = some z ∧ z.cells.length = te.size ∧ 0 < te.size ∧ SrcP P H te.size t2 y ys ∧ x = .dl sz es tl ∧
  (sz = te.size ∨ (es = [] ∧ tl = .full)) ∧ (ys = [] → K (.dl te.size es tl) H) ∧ (ys ≠ [] → mayGrow H tl ∧ (es.length + ys.length) * te.bytes ≤ 140737488355328 ∧ es.length + ys.length ≤ 4611686018427387904 ∧
   K (.dl te.size (es ++ ys) (.tok H.length)) (kill H tl ++ [.tok]))

section
variable {P : Program} {B : Nat} {w0 : World} {a : List AV} {H : AHeap} {μ μ' : Nat → Nat × Nat} {Z Z' : Nat → Nat → Prop} {w w' : World} {n n' : Nat}
variable {x y i v : AV} {cx cy ci : Value} {t t2 ty e : TypeId}

theorem ofVal_cells (zv : Value) : (ofVal zv).cells.length = zv.cells.size := by
 cases zv with
 | agg cs => simp [ofVal, AV.cells, Value.cells]
 | slice a l c => simp only [ofVal, ofVal1, Value.cells]; split <;> simp_all [AV.cells]
 | pointer a => cases a <;> rfl
 | map r => cases r <;> rfl
 | _ => rfl

/-- The source of an append, as the model reads it. -/
structure Src (P : Program) (s : Nat) (t2 : TypeId) (cy : Value) (m : Nat) (news : List Value) (w : World) : Prop where
 notInt : ∀ k, P.underlying t2 ≠ some (.int k)
 hasTy : ∃ d, P.underlying t2 = some d
 len : ∀ w', (Builtin.lenOf cy).run P w' = .ok m w'
 first : (Builtin.firstCells s m cy).run P w = .ok news.toArray w
 firstD : (Builtin.firstCells s m cy).run P w.drew = .ok news.toArray w.drew
 hl : news.length = m * s

theorem run_app_room {sL sC m c o : Nat} {te : TyA} {news : List Value} (hu : P.underlying t = some (.slice e)) (hte : tyA P e = some te) (hs : Src P te.size t2 cy m news w)
  (hst : (storeCells ⟨c, o + sL * te.size, none⟩ news 0).run P w = .ok () w') (hroom : sL + m ≤ sC) :
  (Builtin.append_ #[t, t2] ty #[.slice (some ⟨c, o, none⟩) sL sC, cy]).run P w = .ok (.slice (some ⟨c, o, none⟩) (sL + m) sC) w' := by
 obtain ⟨d, hd⟩ := hs.hasTy
 have hni : ∀ k, d ≠ .int k := fun k e => hs.notInt k (by rw [hd, e])
 cases d <;> first
  | (exact absurd rfl (hni _))
  | simp [Builtin.append_, run_und hu, run_und hd, run_sizeOf' hte, hs.len, hroom, hs.first, addr_add, hst]

theorem run_app_grow {A : Option Addr} {sL sC m : Nat} {te : TyA} {news olds : List Value} {zv : Value} {inf : TypeInfo} (hu : P.underlying t = some (.slice e)) (hte : tyA P e = some te) (hinf : P.info? e = some inf) (hz : inf.zero = some zv)
  (hs : Src P te.size t2 cy m news w) (hold : (Builtin.firstCells te.size sL (.slice A sL sC)).run P w.drew = .ok olds.toArray w.drew) (hroom : sC < sL + m) (h63 : sL + m ≤ 4611686018427387904)
  (hfit : (sL + m) * inf.bytes ≤ 140737488355328) :
  (Builtin.append_ #[t, t2] ty #[.slice A sL sC, cy]).run P w = .ok (.slice (some ⟨w.heap.size, 0, none⟩) (sL + m) (grownCap w (sL + m) sC e))
   (w.drew.alloc (.cells (olds.toArray ++ news.toArray ++ Builtin.zeroCells zv.cells (grownCap w (sL + m) sC e - (sL + m))) e)) := by
 obtain ⟨d, hd⟩ := hs.hasTy
 have hni : ∀ k, d ≠ .int k := fun k e => hs.notInt k (by rw [hd, e])
 have hn : ¬ (sL + m ≤ sC) := by omega
 have h63' : ¬ (9223372036854775807 < ((sL : Int) + (m : Int))) := by omega
 have h48' : ¬ (281474976710656 < Builtin.nextslicecap (sL + m) sC * inf.bytes) := by
  have := growslice_fits (need := sL + m) (old := sC) (bytes := inf.bytes) hroom hfit; omega
 have hsz := run_sizeOf' (w := w) hte
 have hsz2 := run_sizeOf' (w := w.drew) hte
 have hf := hs.firstD
 have hinf1 : (typeInfo e).run P w = .ok inf w := run_typeInfo' hinf
 have hinf2 : (typeInfo e).run P w.drew = .ok inf w.drew := run_typeInfo' hinf
 have hzv : (zeroValue e).run P w.drew = .ok zv w.drew := by simp [zeroValue, hinf2, hz]
 have hzeros : (match d with | .int _ => true | _ => false) = false := by cases d <;> first | rfl | exact absurd rfl (hni _)
 simp [Builtin.append_, run_und hu, run_und hd, hzeros, hsz, hsz2, hinf1, hinf2, hzv, hs.len, hn, h63', h48', Question.forced, hf, hold, newRow, grownCap]
 congr 2
 apply Array.ext'
 simp [List.append_assoc]

theorem src_run {s : Nat} {ys : List AV} (h : srcA P s t2 y = some ys) (hR : R B w0 μ Z H w) (hy : VR μ Z w H.length y cy) :
  ∃ news, Src P s t2 cy ys.length news w ∧ (flat ys).length = news.length ∧ (∀ e, e ∈ ys → e.cells.length = s) ∧
   ∀ (j : Nat) (v : AV), (flat ys)[j]? = some v → ∃ v', news[j]? = some v' ∧ v'.oneCell' = true ∧ VR μ Z w H.length v v' := by
 unfold srcA at h
 split at h
 ·rename_i i hi
  split at h
  ·rename_i e' sz ys' tl hk
   have hu := kind_slice hi hk
   split at h
   ·rename_i hc
    cases h
    cases hy with
    | dl0 _ _ A cap h0 ht =>
     refine ⟨[], ⟨fun k => by rw [hu]; simp, ⟨_, hu⟩, fun w' => by simp [Builtin.lenOf], ?_, ?_, by simp⟩, by simp [flat], by simp, by simp [flat]⟩
     ·cases A <;> simp [Builtin.firstCells, loadCells, loadCellsFrom]
     ·cases A <;> simp [Builtin.firstCells, loadCells, loadCellsFrom]
    | dl _ _ _ c o cap f hs hcap h1 h2 h3 h5 ht =>
     have hs' : ∀ e, e ∈ ys → e.cells.length = s := by
      intro e he
      rcases hc with hc | hc
      ·rw [hs e he, hc]
      ·rw [hc] at he; cases he
     have hl := flat_length hs'
     have hcell : ∀ (j : Nat) (v : Value), ((List.range (flat ys).length).map f)[j]? = some v → w.cell? ((⟨c, o, none⟩ : Addr).add j) = some v := by
      intro j v hj
      have hlt : j < (flat ys).length := by have := (List.getElem?_eq_some_iff.1 hj).1; simpa using this
      simp [hlt] at hj
      subst hj
      rw [addr_add]
      exact h1 j _ (List.getElem?_eq_getElem hlt)
     refine ⟨(List.range (flat ys).length).map f, ⟨fun k => by rw [hu]; simp, ⟨_, hu⟩, fun w' => by simp [Builtin.lenOf], ?_, ?_, by simp [hl]⟩, by simp, hs', ?_⟩
     ·exact run_firstCells_some w s ys.length ⟨c, o, none⟩ _ cap _ (by simp [hl]) hcell
     ·exact run_firstCells_some w.drew s ys.length ⟨c, o, none⟩ _ cap _ (by simp [hl]) hcell
     ·intro j v hj
      have hlt := (List.getElem?_eq_some_iff.1 hj).1
      exact ⟨f j, by simp [hlt], h5 j hlt, h3 j v hj⟩
   ·cases h
  ·rename_i b hk
   have hu := kind_str hi hk
   split at h
   ·rename_i hs1
    cases h; cases hy
    have hfl : flat (b.map fun c => AV.int .u8 (c.toNat : Int)) = b.map fun c => AV.int .u8 (c.toNat : Int) := by
     clear hu hk hi
     induction b with
     | nil => rfl
     | cons x l ih => rw [List.map_cons, flat_cons, ih]; rfl
    have hx : ((⟨b.toArray⟩ : ByteArray).extract 0 b.length).data.map (fun c => Value.int .u8 (c.toNat : Int)) = (b.map fun c => Value.int .u8 (c.toNat : Int)).toArray := by
     rw [ByteArray.extract_mk]; simp
    refine ⟨b.map fun c => .int .u8 (c.toNat : Int), ⟨fun k => by rw [hu]; simp, ⟨_, hu⟩, fun w' => by simp [Builtin.lenOf, ByteArray.size], ?_, ?_, by simp [hs1]⟩, by rw [hfl]; simp, ?_, ?_⟩
    ·simp only [Builtin.firstCells, List.length_map, hx, Sem.run_pure]
    ·simp only [Builtin.firstCells, List.length_map, hx, Sem.run_pure]
    ·intro e he
     simp only [List.mem_map] at he
     obtain ⟨c, _, rfl⟩ := he
     rw [hs1]; rfl
    ·intro j v hj
     rw [hfl] at hj
     simp only [List.getElem?_map, Option.map_eq_some_iff] at hj
     obtain ⟨c, h1, rfl⟩ := hj
     exact ⟨.int .u8 (c.toNat : Int), by simp [h1], rfl, .int _ _⟩
   ·cases h
  ·cases h
 ·cases h

theorem src_runP {s : Nat} {ys : List AV} (h : SrcP P H s t2 y ys) (hR : R B w0 μ Z H w) (hy : VR μ Z w H.length y cy) :
  ∃ news, Src P s t2 cy ys.length news w ∧ (flat ys).length = news.length ∧ (∀ e, e ∈ ys → e.cells.length = s) ∧
   ∀ (j : Nat) (v : AV), (flat ys)[j]? = some v → ∃ v', news[j]? = some v' ∧ v'.oneCell' = true ∧ VR μ Z w H.length v v' := by
 rcases h with h | ⟨ti, e, id, off, cs, hi, hk, rfl, hid, hlen, hs', hfl⟩
 ·exact src_run h hR hy
 ·have hu := kind_slice hi hk
  obtain ⟨hb, hz, ccs, e2, fr, hblk, hfr, hsz, hcs⟩ := hR.obj id _ hid
  have hl := flat_length hs'
  have hcellw : ∀ k, w.cell? ⟨(μ id).1, k, none⟩ = ccs[k]? := fun k => cell_of_row w _ _ ccs e2 fr hblk
  generalize hL : ys.length = L at *
  cases hy with
  | sl _ _ _ _ cap q1 q2 q3 e' N q4 q5 =>
  have hget : ∀ (j : Nat) (v : AV), (flat ys)[j]? = some v → ∃ v', ccs[(μ id).2 + off + j]? = some v' ∧ v'.oneCell' = true ∧ VR μ Z w H.length v v' := by
   intro j v hj
   have hjl := (List.getElem?_eq_some_iff.1 hj).1
   rw [hfl, List.getElem?_take_of_lt (by omega), List.getElem?_drop] at hj
   obtain ⟨v', k1, k2, k3⟩ := hcs _ v hj
   exact ⟨v', by rw [Nat.add_assoc]; exact k1, k2, k3⟩
  have hcell : ∀ (w2 : World), (∀ k, w2.cell? ⟨(μ id).1, k, none⟩ = ccs[k]?) → ∀ (j : Nat) (v : Value), ((List.range (flat ys).length).map fun j => (ccs[(μ id).2 + off + j]?).getD default)[j]? = some v → w2.cell? ((⟨(μ id).1, (μ id).2 + off, none⟩ : Addr).add j) = some v := by
   intro w2 hw2 j v hj
   have hlt : j < (flat ys).length := by have := (List.getElem?_eq_some_iff.1 hj).1; simpa using this
   obtain ⟨v', k1, _⟩ := hget j _ (List.getElem?_eq_getElem hlt)
   simp only [List.getElem?_map, List.getElem?_range hlt, Option.map_some, k1, Option.getD_some] at hj
   cases hj
   rw [addr_add, hw2]; exact k1
  refine ⟨(List.range (flat ys).length).map fun j => (ccs[(μ id).2 + off + j]?).getD default, ⟨fun k => by rw [hu]; simp, ⟨_, hu⟩, fun w' => by simp [Builtin.lenOf], ?_, ?_, by simp [hl, hL]⟩, by simp, hs', ?_⟩
  ·exact run_firstCells_some w s L _ _ cap _ (by simp [hl, hL]) (hcell w hcellw)
  ·exact run_firstCells_some w.drew s L _ _ cap _ (by simp [hl, hL]) (hcell w.drew hcellw)
  ·intro j v hj
   have hlt := (List.getElem?_eq_some_iff.1 hj).1
   obtain ⟨v', k1, k2, k3⟩ := hget j v hj
   exact ⟨v', by simp [hlt, k1], k2, k3⟩

theorem zeroCells_size (z : Array Value) (k : Nat) : (Builtin.zeroCells z k).size = k * z.size := by simp [Builtin.zeroCells]

/-- A slice whose cells have just been written out in a new block. -/
theorem grown_sound (hR : R B w0 μ Z H w) {sz : Nat} {es : List AV} {news : List Value} (hl : (flat es).length = news.length) (hs : ∀ e, e ∈ es → e.cells.length = sz) (hsz : 0 < sz)
  (hv : ∀ (j : Nat) (v : AV), (flat es)[j]? = some v → ∃ v', news[j]? = some v' ∧ v'.oneCell' = true ∧ VR μ Z w H.length v v') (zs : Array Value) (e : TypeId) (cap : Nat) (hcap : es.length ≤ cap) (hzs : zs.size = (cap - es.length) * sz) :
  let Z' := fun c k => Z c k ∨ (c = w.heap.size ∧ k < news.length)
  let μ' := ext μ H.length (w.heap.size, es.length * sz)
  R B w0 μ' Z' (H ++ [.tok]) (w.alloc (.cells (news.toArray ++ zs) e)) ∧ Ev μ Z H w μ' Z' (H ++ [.tok]) (w.alloc (.cells (news.toArray ++ zs) e)) ∧
   VR μ' Z' (w.alloc (.cells (news.toArray ++ zs) e)) (H.length + 1) (.dl sz es (.tok H.length)) (.slice (some ⟨w.heap.size, 0, none⟩) es.length cap) := by
 intro Z' μ'
 have hfl := flat_length hs
 have hnew : (w.alloc (.cells (news.toArray ++ zs) e)).heap[w.heap.size]? = some (.cells (news.toArray ++ zs) e (0, 0)) := heap_alloc_new w _
 have hpush := hR.pushZ .tok (.cells (news.toArray ++ zs) e) (es.length * sz) Z' (fun _ _ h => .inl h) (fun c k h => h.imp id (·.1)) rfl (by
  intro μ'' hm he
  refine ⟨by rw [he]; exact hR.hB, ?_, _, e, (0, 0), by rw [he]; exact hnew, ?_⟩
  ·intro o ho
   rw [he] at ho ⊢
   rcases ho with ho | ⟨_, ho⟩
   ·have := hR.zlt _ _ ho; simp only at this; omega
   ·simp only; omega
  ·intro o _
   rw [he]
   simp only [World.frozen?, hnew]
   simp)
 refine ⟨hpush.1, hpush.2, ?_⟩
 obtain ⟨f, hf⟩ : ∃ f : Nat → Value, ∀ j v, (flat es)[j]? = some v → news[j]? = some (f j) ∧ (f j).oneCell' = true ∧ VR μ Z w H.length v (f j) := by
  refine ⟨fun j => (news[j]?).getD default, fun j v hj => ?_⟩
  obtain ⟨u, k1, k2, k3⟩ := hv j v hj
  simp only [k1, Option.getD_some]
  exact ⟨trivial, k2, k3⟩
 refine .dl sz es _ w.heap.size 0 cap f hs hcap ?_ ?_ ?_ ?_ ?_
 ·intro j v hj
  have hlt := (List.getElem?_eq_some_iff.1 hj).1
  rw [cell_of_row _ _ _ _ e (0, 0) hnew, Nat.zero_add, Array.getElem?_append_left (by simp; omega)]
  simpa using (hf j v hj).1
 ·intro j hj; exact .inr ⟨rfl, by omega⟩
 ·intro j v hj
  have := (hf j v hj).2.2.ev hpush.2
  rw [List.length_append] at this
  exact this
 ·intro j hj; exact (hf j _ (List.getElem?_eq_getElem hj)).2.1
 ·refine ⟨by omega, ?_, hsz, e, cap * sz, ?_, by omega⟩
  ·show ext μ H.length _ H.length = _
   rw [ext_eq]; simp
  ·simp only [World.shape?, hnew]
   congr 2
   rw [Array.size_append, hzs, List.size_toArray, ← hl, hfl, ← Nat.add_mul]
   congr 1; omega

/-- append, in whatever way the model grows the slice. -/
theorem app_sound (K : AV → AHeap → Prop) (h : AApp P t t2 x y H K) (hR : R B w0 μ Z H w) (hx : VR μ Z w H.length x cx) (hy : VR μ Z w H.length y cy) :
  ∃ cv w' v μ' Z' H', (Builtin.append_ #[t, t2] ty #[cx, cy]).run P w = .ok cv w' ∧ R B w0 μ' Z' H' w' ∧ VR μ' Z' w' H'.length v cv ∧ Ev μ Z H w μ' Z' H' w' ∧ K v H' := by
 obtain ⟨ti, e, te, z, ys, sz, es, tl, h1, h2, h3, h4, h5, h6, h7, rfl, g2, h8, h9⟩ := h
 have hu := kind_slice h1 h2
 obtain ⟨news, hsrc, hnl, hys, hnv⟩ := src_runP h7 hR hy
 have hform : ∃ A cap, cx = .slice A es.length cap ∧ es.length ≤ cap := by
  cases hx with
  | dl0 => exact ⟨_, _, rfl, Nat.zero_le _⟩
  | dl => exact ⟨_, _, rfl, by assumption⟩
 by_cases hm : ys = []
 ·-- nothing is appended
  subst hm
  have hn0 : news = [] := by rw [← List.length_eq_zero_iff, ← hnl]; rfl
  subst hn0
  obtain ⟨A, cap, rfl, hcap⟩ := hform
  have hx' : VR μ Z w H.length (.dl te.size es tl) (.slice A es.length cap) := by
   refine hx.weak (.inr (.inr ⟨te.size, sz, es, tl, tl, rfl, rfl, .inl rfl, ?_⟩))
   rcases g2 with rfl | ⟨rfl, rfl⟩
   ·exact .inl rfl
   ·exact .inr ⟨rfl, fun t e => by cases e⟩
  refine ⟨.slice A es.length cap, w, _, μ, Z, H, ?_, hR, hx', Ev.refl μ Z H w, h8 rfl⟩
  obtain ⟨d, hd⟩ := hsrc.hasTy
  have hni : ∀ k, d ≠ .int k := fun k e => hsrc.notInt k (by rw [hd, e])
  have hzeros : (match d with | .int _ => true | _ => false) = false := by cases d <;> first | rfl | exact absurd rfl (hni _)
  have hlen0 : ∀ w', (Builtin.lenOf cy).run P w' = .ok 0 w' := by simpa using hsrc.len
  have hf0 : (Builtin.firstCells te.size 0 cy).run P w = .ok #[] w := by simpa using hsrc.first
  cases A <;> simp [Builtin.append_, run_und hu, run_und hd, hzeros, run_sizeOf' h3, hlen0, hcap, hf0, storeCells]
 ·obtain ⟨g1, g3, g4, g5⟩ := h9 hm
  have hm0 : 0 < ys.length := List.length_pos_iff.2 hm
  obtain ⟨inf, zv, k1, k2, k3, _⟩ := zero_some (w := w) h3 h4
  have hzsz : zv.cells.size = te.size := by rw [← h5, k3, ofVal_cells]
  have hbytes : inf.bytes = te.bytes := by
   obtain ⟨inf', d, q1, _, _, _, q2, _⟩ := tyA_spec h3
   rw [k1] at q1; cases q1; exact q2.symm
  have hes : ∀ e', e' ∈ es → e'.cells.length = te.size := by
   intro e' he'
   rcases g2 with g2 | ⟨g2, _⟩
   ·rw [← g2]
    cases hx with
    | dl0 => cases he'
    | dl _ _ _ c o cap f hs hc q1 q2 q3 q5 ht => exact hs e' he'
   ·rw [g2] at he'; cases he'
  have hall : ∀ e', e' ∈ es ++ ys → e'.cells.length = te.size := by
   intro e' he'
   rcases List.mem_append.1 he' with he' | he'
   ·exact hes e' he'
   ·exact hys e' he'
  -- the old elements, as the model reads them
  have holds : ∃ olds : List Value, (∀ w', (∀ b o, b < w.heap.size → w'.cell? ⟨b, o, none⟩ = w.cell? ⟨b, o, none⟩) → ∀ A cap, cx = .slice A es.length cap → (Builtin.firstCells te.size es.length cx).run P w' = .ok olds.toArray w') ∧ (flat es).length = olds.length ∧
    ∀ (j : Nat) (v : AV), (flat es)[j]? = some v → ∃ v', olds[j]? = some v' ∧ v'.oneCell' = true ∧ VR μ Z w H.length v v' := by
   cases hx with
   | dl0 _ _ A cap q1 q2 =>
    refine ⟨[], ?_, by simp [flat], by simp [flat]⟩
    intro w' _ A' cap' _
    cases A <;> simp [Builtin.firstCells, loadCells, loadCellsFrom]
   | dl _ _ _ c o cap f hs hc q1 q2 q3 q5 ht =>
    have hl := flat_length hes
    refine ⟨(List.range (flat es).length).map f, ?_, by simp, ?_⟩
    ·intro w' hw' A' cap' _
     refine run_firstCells_some w' te.size es.length ⟨c, o, none⟩ _ cap _ (by simp [hl]) ?_
     intro j v hj
     have hlt : j < (flat es).length := by have := (List.getElem?_eq_some_iff.1 hj).1; simpa using this
     simp [hlt] at hj
     subst hj
     have hcell := q1 j _ (List.getElem?_eq_getElem hlt)
     rw [addr_add, hw' c (o + j) (hR.zlt _ _ (q2 j hlt))]
     exact hcell
    ·intro j v hj
     have hlt := (List.getElem?_eq_some_iff.1 hj).1
     exact ⟨f j, by simp [hlt], q5 j hlt, q3 j v hj⟩
  obtain ⟨olds, ho1, ho2, ho3⟩ := holds
  obtain ⟨A, cap, hcx, hcap⟩ := hform
  have hflat : flat (es ++ ys) = flat es ++ flat ys := flat_append es ys
  have hjoin : ∀ (j : Nat) (v : AV), (flat (es ++ ys))[j]? = some v → ∃ v', (olds ++ news)[j]? = some v' ∧ v'.oneCell' = true ∧ VR μ Z w H.length v v' := by
   intro j v hj
   rw [hflat] at hj
   by_cases hjl : j < (flat es).length
   ·rw [List.getElem?_append_left hjl] at hj
    obtain ⟨v', q1, q2, q3⟩ := ho3 j v hj
    exact ⟨v', by rw [List.getElem?_append_left (by omega)]; exact q1, q2, q3⟩
   ·rw [List.getElem?_append_right (by omega)] at hj
    obtain ⟨v', q1, q2, q3⟩ := hnv _ v hj
    exact ⟨v', by rw [List.getElem?_append_right (by omega), ← ho2]; exact q1, q2, q3⟩
  have grows : cap < es.length + ys.length → ∃ cv w' v μ' Z' H', (Builtin.append_ #[t, t2] ty #[cx, cy]).run P w = .ok cv w' ∧ R B w0 μ' Z' H' w' ∧ VR μ' Z' w' H'.length v cv ∧ Ev μ Z H w μ' Z' H' w' ∧ K v H' := by
   intro hlt
   have hrun := run_app_grow (P := P) (w := w) (cy := cy) (t := t) (t2 := t2) (ty := ty) (A := A) (sL := es.length) (sC := cap) hu h3 k1 k2 hsrc (by have := ho1 w.drew (fun _ _ _ => rfl) A cap hcx; rwa [hcx] at this) hlt g4 (by rw [hbytes]; exact g3)
   have hsub : Sub (kill H tl) H := by
    cases tl with
    | tok t' =>
     refine ⟨by simp [kill], fun i o hi ha => ?_⟩
     simp only [kill] at hi
     by_cases hit : t' = i
     ·subst hit
      have hlt' : t' < H.length := by have := (List.getElem?_eq_some_iff.1 hi).1; simpa using this
      rw [List.getElem?_set_self hlt'] at hi
      cases hi; cases ha
     ·rw [getElem?_set_ne hit] at hi; exact hi
    | _ => exact ⟨rfl, fun i o hi _ => hi⟩
   have hR1 : R B w0 μ Z (kill H tl) w.drew := (hR.sub hsub).drew
   have hcapg := grownCap_ge w (es.length + ys.length) cap e
   have hlen : (es ++ ys).length = es.length + ys.length := List.length_append
   have hg := grown_sound (sz := te.size) (es := es ++ ys) (news := olds ++ news) hR1 (by rw [hflat, List.length_append, List.length_append, ho2, hnl]) hall h6
    (fun j v hj => by obtain ⟨v', q1, q2, q3⟩ := hjoin j v hj; exact ⟨v', q1, q2, by rw [hsub.1]; exact q3.ev (Ev.drew (μ := μ) (Z := Z) (H := H) (w := w))⟩)
    (Builtin.zeroCells zv.cells (grownCap w (es.length + ys.length) cap e - (es.length + ys.length))) e (grownCap w (es.length + ys.length) cap e) (by rw [hlen]; exact hcapg) (by rw [zeroCells_size, hzsz, hlen])
   obtain ⟨r1, r2, r3⟩ := hg
   have e1 : (olds ++ news).toArray = olds.toArray ++ news.toArray := by simp
   rw [e1] at r1 r2 r3
   refine ⟨.slice (some ⟨w.heap.size, 0, none⟩) (es ++ ys).length (grownCap w (es.length + ys.length) cap e), _, _, _, _, _, by rw [hcx, hlen]; exact hrun, r1, ?_, ?_, by rw [← hsub.1] at g5; exact g5⟩
   ·have hk : (kill H tl ++ [AObj.tok]).length = (kill H tl).length + 1 := by simp
    rw [hk]
    exact r3
   ·have hev : Ev μ Z H w μ Z (kill H tl) w.drew := (Ev.sub hsub).trans Ev.drew
    exact hev.trans r2
  cases tl with
  | none => exact g1.elim
  | full =>
   refine grows ?_
   rw [hcx] at hx
   generalize hL : es.length = L at hx
   cases hx with
   | dl0 _ _ _ _ q1 q2 => have := q1 rfl; omega
   | dl _ _ _ c o _ f hs hc q1 q2 q3 q5 ht => simp only [TailR] at ht; omega
  | tok t' =>
   by_cases hroom : es.length + ys.length ≤ cap
   ·-- there is room
    rw [hcx] at hx
    generalize hL : es.length = L at hx
    cases hx with
    | dl0 _ _ _ _ q1 q2 => exact absurd rfl (q2 t')
    | dl _ _ _ c o _ f hs hc q1 q2 q3 q5 ht =>
     obtain ⟨r1, r2, r3, e', N, r4, r5⟩ := ht
     have hsz : sz = te.size := by
      rcases g2 with g2 | ⟨_, g2⟩
      ·exact g2
      ·cases g2
     subst hsz
     clear hL
     obtain ⟨b1, b2, ccs, e2, fr, b3, b4⟩ := hR.obj t' _ g1
     have hμ1 : (μ t').1 = c := by rw [r2]
     have hμ2 : (μ t').2 = o + es.length * te.size := by rw [r2]
     rw [hμ1] at b1 b2 b3 b4
     have hN : ccs.size = N := by
      simp only [World.shape?, b3, Option.some.injEq, Prod.mk.injEq] at r4
      exact r4.2
     have hfit : o + (es.length + ys.length) * te.size ≤ ccs.size := by
      have := Nat.mul_le_mul_right te.size hroom
      omega
     have hfe := flat_length hes
     have hfy := flat_length hys
     have hnl2 : news.length = ys.length * te.size := by omega
     have hadd : (es.length + ys.length) * te.size = es.length * te.size + ys.length * te.size := Nat.add_mul _ _ _
     have hcellw : ∀ k, w.cell? ⟨c, k, none⟩ = ccs[k]? := fun k => cell_of_row w _ _ ccs e2 fr b3
     have honec : ∀ v, v ∈ news → v.oneCell' = true := by
      intro v hv
      obtain ⟨j, hj⟩ := List.getElem?_of_mem hv
      have hjl : j < (flat ys).length := by have := (List.getElem?_eq_some_iff.1 hj).1; omega
      obtain ⟨v', p1, p2, _⟩ := hnv j _ (List.getElem?_eq_getElem hjl)
      rw [hj] at p1; cases p1; exact p2
     have hst := run_storeCells_cells (P := P) c (o + es.length * te.size) news 0 w (fun j hj => by
      rw [Nat.add_zero, hcellw]; simp; omega) (fun j hj => by rw [Nat.add_zero]; exact b4 _ (by omega)) honec
     rw [Nat.add_zero] at hst
     obtain ⟨cs', p1, p2, p3, p4, p5, p6, p7, p8⟩ := setCells_block c news (o + es.length * te.size) w ccs e2 fr b3
     generalize hw' : w.setCells c (o + es.length * te.size) news = w' at *
     have hrun := run_app_room (P := P) (w := w) (w' := w') (cy := cy) (t := t) (t2 := t2) (ty := ty) (sL := es.length) (sC := cap) hu h3 hsrc hst hroom
     have hcell' : ∀ k, w'.cell? ⟨c, k, none⟩ = cs'[k]? := fun k => cell_of_row w' _ _ cs' e2 fr p1
     have hlow : ∀ k, k < o + es.length * te.size → w'.cell? ⟨c, k, none⟩ = w.cell? ⟨c, k, none⟩ := by
      intro k hk
      rw [hcell', hcellw, p3 k (by omega), if_neg (by omega)]
     have hzc : ∀ c' k, Z c' k → w'.cell? ⟨c', k, none⟩ = w.cell? ⟨c', k, none⟩ := by
      intro c' k hz
      by_cases hc' : c' = c
      ·subst hc'
       have := b2 k hz
       rw [hμ2] at this
       exact hlow k this
      ·exact World.cell?_of_block (a := ⟨c', k, none⟩) (p4 c' hc')
     have hsh : w'.shape? (μ t').1 = w.shape? (μ t').1 := by
      rw [hμ1]; simp only [World.shape?, p1, b3, p2]
     have hfr' : ∀ k, k < cs'.size → w'.frozen? ⟨c, k, none⟩ = false := by
      intro k hk
      rw [← hw', World.frozen?_setCells]
      exact b4 k (by omega)
     have hpass := hR.pass (w' := w') g1 rfl (o' := .tok) rfl (o + (es.length + ys.length) * te.size) (fun c' k => Z c' k ∨ (c' = c ∧ o + es.length * te.size ≤ k ∧ k < o + (es.length + ys.length) * te.size))
      (fun _ _ h => .inl h) (fun c' k h => h.imp id (fun h => by rw [hμ1]; exact h.1)) (fun k _ hk => p4 k (by rw [hμ1] at hk; exact hk)) p5 p6 p7 p8 hzc hsh (by
       intro μ'' hm he
       refine ⟨by rw [he, hμ1]; exact b1, ?_, cs', e2, fr, by rw [he, hμ1]; exact p1, ?_⟩
       ·intro k hk
        rw [he] at hk ⊢
        rw [hμ1] at hk
        rcases hk with hk | hk
        ·have := b2 k hk
         rw [hμ2] at this
         simp only; omega
        ·exact hk.2.2
       ·intro k hk; rw [he, hμ1]; exact hfr' k hk)
     have hlen : (es ++ ys).length = es.length + ys.length := List.length_append
     refine ⟨.slice (some ⟨c, o, none⟩) (es ++ ys).length cap, w', _, _, _, _, by rw [hcx, hlen]; exact hrun, hpass.1, ?_, hpass.2, g5⟩
     have hkl : (H.set t' AObj.dead ++ [AObj.tok]).length = H.length + 1 := by simp
     rw [hkl]
     obtain ⟨g, hg⟩ : ∃ g : Nat → Value, ∀ j v, (flat (es ++ ys))[j]? = some v → w'.cell? ⟨c, o + j, none⟩ = some (g j) ∧ (g j).oneCell' = true ∧ VR μ Z w H.length v (g j) := by
      refine ⟨fun j => (w'.cell? ⟨c, o + j, none⟩).getD default, fun j v hj => ?_⟩
      rw [hflat] at hj
      by_cases hjl : j < (flat es).length
      ·rw [List.getElem?_append_left hjl] at hj
       have e1 := q1 j v hj
       simp only [hlow (o + j) (by omega), e1, Option.getD_some]
       exact ⟨trivial, q5 j hjl, q3 j v hj⟩
      ·rw [List.getElem?_append_right (by omega)] at hj
       have hjb := (List.getElem?_eq_some_iff.1 hj).1
       obtain ⟨v', s1, s2, s3⟩ := hnv _ v hj
       have e1 : w'.cell? ⟨c, o + j, none⟩ = some v' := by
        rw [hcell', p3 _ (by omega), if_pos (by omega), ← s1]
        congr 1; omega
       simp only [e1, Option.getD_some]
       exact ⟨trivial, s2, s3⟩
     refine .dl te.size (es ++ ys) _ c o cap g hall (by omega) (fun j v hj => (hg j v hj).1) ?_ ?_ (fun j hj => (hg j _ (List.getElem?_eq_getElem hj)).2.1) ?_
     ·intro j hj
      rw [hflat, List.length_append] at hj
      by_cases hjl : j < (flat es).length
      ·exact .inl (q2 j hjl)
      ·exact .inr ⟨rfl, by omega, by omega⟩
     ·intro j v hj
      have := ((hg j v hj).2.2).ev hpass.2
      rw [hkl] at this
      exact this
     ·refine ⟨by omega, ?_, h6, e2, N, ?_, r5⟩
      ·rw [ext_eq, hμ1, hlen]
      ·simp only [World.shape?, p1, p2, hN]
   ·exact grows (by omega)
end
end Go.Av
end
