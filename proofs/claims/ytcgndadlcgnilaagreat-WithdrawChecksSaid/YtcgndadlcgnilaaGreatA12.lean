/- the layer over the model, part 12 -/
import Derived.Laws.IdiomCopy
import Derived.Test.YtcgndadlcgnilaaGreatA11
set_option autoImplicit false
set_option linter.unusedSimpArgs false
set_option linter.unusedVariables false
set_option linter.unnecessarySimpa false
section
set_option linter.unusedSimpArgs false
set_option linter.unusedVariables false
namespace Go.Av
open Go.RowKit

/-- Values of one cell. -/
def AV.one : AV → Bool
 | .undef => false
 | .agg _ => false
 | .tup _ => false
 | _ => true

section
variable {P : Program} {B : Nat} {w0 : World} {a : List AV} {H : AHeap} {μ μ' : Nat → Nat × Nat} {Z Z' : Nat → Nat → Prop} {w w' : World} {n n' : Nat}
variable {x y i v : AV} {cx cy ci : Value} {t : TypeId}

theorem VR.one (hx : VR μ Z w n x cx) (h : x.one = true) : cx.oneCell' = true := by
 cases hx <;> first | rfl | (cases h; done)

theorem VR.one_ne (h : x.one = true) : x ≠ .undef := by rintro rfl; cases h

/-- The cells of a block against a list. -/
def CR (μ : Nat → Nat × Nat) (Z : Nat → Nat → Prop) (w : World) (n : Nat) (cs : List AV) (ccs : Array Value) (base : Nat) : Prop :=
 base + cs.length ≤ ccs.size ∧ ∀ (j : Nat) (v : AV), cs[j]? = some v → ∃ v', ccs[base + j]? = some v' ∧ v'.oneCell' = true ∧ VR μ Z w n v v'

theorem CR.of_vrs {cs : List AV} {ccs : Array Value} (h : VRs μ Z w n cs ccs) (h1 : cs.all AV.one = true) : CR μ Z w n cs ccs 0 := by
 refine ⟨by have := h.1; omega, fun j v hj => ?_⟩
 obtain ⟨v', k1, k2⟩ := h.2 j v hj
 exact ⟨v', by simpa using k1, k2.one (List.all_eq_true.1 h1 v (List.mem_of_getElem? hj)), k2⟩

theorem CR.mono {cs : List AV} {ccs : Array Value} {base : Nat} (h : CR μ Z w n cs ccs base) (hn : n ≤ n') (hm : ∀ i, i < n → μ' i = μ i) (hz : ∀ c o, Z c o → Z' c o)
  (hc : ∀ c o, Z c o → w'.cell? ⟨c, o, none⟩ = w.cell? ⟨c, o, none⟩) (hs : ∀ c, c < w.heap.size → w'.shape? c = w.shape? c) : CR μ' Z' w' n' cs ccs base :=
 ⟨h.1, fun j v hj => let ⟨v', k1, k2, k3⟩ := h.2 j v hj; ⟨v', k1, k2, k3.mono hn hm hz hc hs⟩⟩

/-- A new variable. -/
theorem new_cells (hR : R B w0 μ Z H w) {cs : List AV} {ccs : Array Value} (e : TypeId) (hc : CR μ Z w H.length cs ccs 0) :
  R B w0 (ext μ H.length (w.heap.size, 0)) Z (H ++ [.cells cs]) (w.alloc (.cells ccs e)) ∧ Ev μ Z H w (ext μ H.length (w.heap.size, 0)) Z (H ++ [.cells cs]) (w.alloc (.cells ccs e)) := by
 refine hR.push (.cells cs) (.cells ccs e) rfl ?_
 intro μ' hm he
 have hz : ∀ o, ¬ Z w.heap.size o := fun o h => by have := hR.zlt _ _ h; omega
 refine ⟨by rw [he]; exact hR.hB, by rw [he]; exact hz, ccs, e, (0, 0), by rw [he]; exact heap_alloc_new w _, ?_, ?_, ?_⟩
 ·intro o _
  rw [he]
  have : (w.alloc (.cells ccs e)).heap[w.heap.size]? = some (.cells ccs e (0, 0)) := heap_alloc_new w _
  simp only [World.frozen?, this]
  simp
 ·rw [he]; exact hc.1
 ·intro j v hj
  obtain ⟨v', k1, k2, k3⟩ := hc.2 j v hj
  refine ⟨v', by rw [he]; exact k1, k2, k3.mono (by omega) hm (fun _ _ h => h) (fun c o h => cell_alloc w _ c o (hR.zlt c o h)) (fun c hc => shape_alloc w _ c hc)⟩

/-- The pointer to it. -/
theorem new_ptr : VR (ext μ H.length (w.heap.size, 0)) Z w' (H.length + 1) (.ptr H.length 0) (.pointer (some ⟨w.heap.size, 0, none⟩)) := by
 have := VR.ptr (μ := ext μ H.length (w.heap.size, 0)) (Z := Z) (w := w') (n := H.length + 1) H.length 0 (by omega)
 rw [ext_eq] at this
 exact this

/-! ### a store -/
def putA (cs : List AV) (off : Nat) (vs : List AV) : List AV := cs.take off ++ vs ++ cs.drop (off + vs.length)

theorem setCells_block (b : Nat) : ∀ (vs : List Value) (o : Nat) (w : World) (cs : Array Value) (e : TypeId) (fr : Nat × Nat), w.heap[b]? = some (.cells cs e fr) →
  ∃ cs', (w.setCells b o vs).heap[b]? = some (.cells cs' e fr) ∧ cs'.size = cs.size ∧ (∀ k : Nat, o + vs.length ≤ cs.size → cs'[k]? = if o ≤ k ∧ k < o + vs.length then vs[k - o]? else cs[k]?) ∧
   (∀ k : Nat, k ≠ b → (w.setCells b o vs).heap[k]? = w.heap[k]?) ∧ (w.setCells b o vs).heap.size = w.heap.size ∧ (w.setCells b o vs).os = w.os ∧ (w.setCells b o vs).tape = w.tape ∧ (w.setCells b o vs).output = w.output
 | [], o, w, cs, e, fr, h => ⟨cs, h, rfl, fun k _ => by simp; omega, fun _ _ => rfl, rfl, rfl, rfl, rfl⟩
 | v :: r, o, w, cs, e, fr, h => by
  have h1 : (w.setCell ⟨b, o, none⟩ v).heap[b]? = some (.cells (cs.setIfInBounds o v) e fr) := by
   simp [World.setCell, Array.getElem?_modify, h]
  obtain ⟨cs', k1, k2, k3, k4, k5, k6, k7, k8⟩ := setCells_block b r (o + 1) _ _ e fr h1
  refine ⟨cs', k1, by simpa using k2, ?_, ?_, ?_, k6, k7, k8⟩
  ·intro k hk
   simp only [List.length_cons] at hk ⊢
   rw [k3 k (by simp; omega)]
   by_cases hko : k = o
   ·subst hko
    rw [if_neg (by omega), if_pos (by omega)]
    have : k < cs.size := by omega
    simp [Array.getElem?_setIfInBounds, this]
   ·by_cases hc : o + 1 ≤ k ∧ k < o + 1 + r.length
    ·rw [if_pos hc, if_pos (by omega), show k - o = (k - (o + 1)) + 1 by omega, List.getElem?_cons_succ]
    ·rw [if_neg hc, if_neg (by omega), Array.getElem?_setIfInBounds, if_neg (by omega)]
  ·intro k hk
   rw [World.setCells, k4 k hk]
   exact Below.heap_setCell _ _ _ _ hk
  ·rw [World.setCells, k5]; simp [World.setCell]

theorem getElem?_set_ne {l : List AObj} {i j : Nat} {o : AObj} (h : i ≠ j) : (l.set i o)[j]? = l[j]? := by rw [List.getElem?_set, if_neg h]

/-- WHAT ONE OF THE CALL's OWN BLOCKS HOLDS IS CHANGED. -/
theorem R.change (hR : R B w0 μ Z H w) {id : Nat} {o o' : AObj} (hid : H[id]? = some o) (ha : o.alive = true)
  (hoth : ∀ k, k < w.heap.size → k ≠ (μ id).1 → w'.heap[k]? = w.heap[k]?) (hsize : w'.heap.size = w.heap.size) (hos : w'.os = w.os) (htape : w'.tape = w.tape) (hout : w'.output = w.output)
  (hzc : ∀ c o, Z c o → w'.cell? ⟨c, o, none⟩ = w.cell? ⟨c, o, none⟩) (hsh : w'.shape? (μ id).1 = w.shape? (μ id).1)
  (ho : (∀ c o, Z c o → w'.cell? ⟨c, o, none⟩ = w.cell? ⟨c, o, none⟩) → (∀ c, c < w.heap.size → w'.shape? c = w.shape? c) → OR B μ Z w' H.length id o') :
  R B w0 μ Z (H.set id o') w' ∧ Ev μ Z H w μ Z (H.set id o') w' := by
 have hlt := hR.lt hid ha
 have hbase := hR.base hid ha
 have hidl := (List.getElem?_eq_some_iff.1 hid).1
 have hshape : ∀ c, c < w.heap.size → w'.shape? c = w.shape? c := by
  intro c hc
  by_cases h : c = (μ id).1
  ·rw [h]; exact hsh
  ·unfold World.shape?; rw [hoth c hc h]
 have hbelow : Below B w0 w' := hR.below.trans ⟨hos, htape, hout, by omega, fun k hk => hoth k (by have := hR.hB; omega) (by omega)⟩
 refine ⟨⟨hbelow, by rw [hsize]; exact hR.hB, fun c o h => by rw [hsize]; exact hR.zlt c o h, ?_, ?_⟩, ?_⟩
 ·intro j oj hj
  rw [List.length_set]
  by_cases hji : id = j
  ·subst hji
   rw [List.getElem?_set_self hidl] at hj
   cases hj
   exact ho hzc hshape
  ·rw [getElem?_set_ne hji] at hj
   have hjl := (List.getElem?_eq_some_iff.1 hj).1
   refine OR.keep (hR.obj j oj hj) hjl (Nat.le_refl _) (fun _ _ => rfl) (fun _ _ h => h) hzc hshape (by omega) ?_ (fun _ h => h)
   intro haj
   exact hoth _ (hR.lt hj haj) (fun e => hji (hR.inj id j o oj hid hj ha haj e.symm))
 ·intro i j oi oj hi hj hai haj he
  have get : ∀ {k : Nat} {ok : AObj}, (H.set id o')[k]? = some ok → ok.alive = true → ∃ ok', H[k]? = some ok' ∧ ok'.alive = true := by
   intro k ok hk hak
   by_cases hki : id = k
   ·subst hki; exact ⟨o, hid, ha⟩
   ·rw [getElem?_set_ne hki] at hk; exact ⟨ok, hk, hak⟩
  obtain ⟨oi', h1, h2⟩ := get hi hai
  obtain ⟨oj', h3, h4⟩ := get hj haj
  exact hR.inj i j oi' oj' h1 h3 h2 h4 he
 ·refine ⟨by simp, fun _ _ => rfl, fun _ _ h => h, hzc, hshape, by omega, ?_, ?_, fun _ _ h => .inl h⟩
  ·intro c hc hu
   exact hoth c hc (fun e => hu id o hid ha e.symm)
  ·intro k ok hk hak
   by_cases hki : id = k
   ·subst hki; exact .inr ⟨id, o, hid, ha, rfl⟩
   ·rw [getElem?_set_ne hki] at hk; exact .inr ⟨k, ok, hk, hak, rfl⟩

/-- AN OBJECT's BLOCK GOES OVER TO ANOTHER OBJECT; a part of it is frozen. -/
theorem R.pass (hR : R B w0 μ Z H w) {t : Nat} {o o' : AObj} (ht : H[t]? = some o) (ha : o.alive = true) (ha' : o'.alive = true) (off : Nat) (Z' : Nat → Nat → Prop)
  (hZ : ∀ c k, Z c k → Z' c k) (hZ' : ∀ c k, Z' c k → Z c k ∨ c = (μ t).1)
  (hoth : ∀ k, k < w.heap.size → k ≠ (μ t).1 → w'.heap[k]? = w.heap[k]?) (hsize : w'.heap.size = w.heap.size) (hos : w'.os = w.os) (htape : w'.tape = w.tape) (hout : w'.output = w.output)
  (hzc : ∀ c o, Z c o → w'.cell? ⟨c, o, none⟩ = w.cell? ⟨c, o, none⟩) (hsh : w'.shape? (μ t).1 = w.shape? (μ t).1)
  (ho : ∀ μ', (∀ i, i < H.length → μ' i = μ i) → μ' H.length = ((μ t).1, off) → OR B μ' Z' w' (H.length + 1) H.length o') :
  R B w0 (ext μ H.length ((μ t).1, off)) Z' (H.set t .dead ++ [o']) w' ∧ Ev μ Z H w (ext μ H.length ((μ t).1, off)) Z' (H.set t .dead ++ [o']) w' := by
 have hlt := hR.lt ht ha
 have hbase := hR.base ht ha
 have htl := (List.getElem?_eq_some_iff.1 ht).1
 have hshape : ∀ c, c < w.heap.size → w'.shape? c = w.shape? c := by
  intro c hc
  by_cases h : c = (μ t).1
  ·rw [h]; exact hsh
  ·unfold World.shape?; rw [hoth c hc h]
 have hbelow : Below B w0 w' := hR.below.trans ⟨hos, htape, hout, by omega, fun k hk => hoth k (by have := hR.hB; omega) (by omega)⟩
 have hlen : (H.set t AObj.dead).length = H.length := by simp
 have old : ∀ {j : Nat} {oj : AObj}, (H.set t AObj.dead ++ [o'])[j]? = some oj → j < H.length → oj.alive = true → j ≠ t ∧ H[j]? = some oj := by
  intro j oj hj hjl haj
  rw [List.getElem?_append_left (by omega)] at hj
  by_cases hjt : t = j
  ·subst hjt
   rw [List.getElem?_set_self htl] at hj
   cases hj; cases haj
  ·rw [getElem?_set_ne hjt] at hj; exact ⟨fun e => hjt e.symm, hj⟩
 refine ⟨⟨hbelow, by rw [hsize]; exact hR.hB, ?_, ?_, ?_⟩, ?_⟩
 ·intro c k h
  rw [hsize]
  rcases hZ' c k h with h | h
  ·exact hR.zlt c k h
  ·omega
 ·intro j oj hj
  rw [List.length_append, List.length_singleton, hlen]
  have hjl := (List.getElem?_eq_some_iff.1 hj).1
  rw [List.length_append, List.length_singleton, hlen] at hjl
  by_cases hjn : j < H.length
  ·by_cases haj : oj.alive = true
   ·obtain ⟨hne, hj'⟩ := old hj hjn haj
    have hneb : (μ j).1 ≠ (μ t).1 := fun e => hne (hR.inj j t oj o hj' ht haj ha e)
    refine OR.keep (hR.obj j oj hj') hjn (by omega) (fun i hi => ext_lt hi) hZ hzc hshape (by omega) ?_ ?_
    ·intro _; exact hoth _ (hR.lt hj' haj) hneb
    ·intro k hk
     rcases hZ' _ _ hk with h | h
     ·exact h
     ·exact absurd h hneb
   ·cases oj <;> first | trivial | exact absurd rfl haj
  ·have he : j = H.length := by omega
   subst he
   have hj2 : (H.set t AObj.dead ++ [o'])[H.length]? = some o' := by
    rw [List.getElem?_append_right (by omega), hlen, Nat.sub_self]; rfl
   rw [hj2] at hj
   cases hj
   exact ho _ (fun i hi => ext_lt hi) ext_eq
 ·intro i j oi oj hi hj hai haj he
  have hil := (List.getElem?_eq_some_iff.1 hi).1
  have hjl := (List.getElem?_eq_some_iff.1 hj).1
  rw [List.length_append, List.length_singleton, hlen] at hil hjl
  by_cases h1 : i < H.length
  ·obtain ⟨k1, k2⟩ := old hi h1 hai
   by_cases h2 : j < H.length
   ·obtain ⟨k3, k4⟩ := old hj h2 haj
    rw [ext_lt h1, ext_lt h2] at he
    exact hR.inj i j oi oj k2 k4 hai haj he
   ·have : j = H.length := by omega
    subst this
    rw [ext_lt h1, ext_eq] at he
    exact absurd (hR.inj i t oi o k2 ht hai ha he) k1
  ·have : i = H.length := by omega
   subst this
   by_cases h2 : j < H.length
   ·obtain ⟨k3, k4⟩ := old hj h2 haj
    rw [ext_lt h2, ext_eq] at he
    exact absurd (hR.inj j t oj o k4 ht haj ha he.symm) k3
   ·omega
 ·refine ⟨by simp, fun i hi => ext_lt hi, hZ, hzc, hshape, by omega, ?_, ?_, fun c k h => (hZ' c k h).imp id (fun e => .inr ⟨t, o, ht, ha, e.symm⟩)⟩
  ·intro c hc hu
   exact hoth c hc (fun e => hu t o ht ha e.symm)
  ·intro k ok hk hak
   have hkl := (List.getElem?_eq_some_iff.1 hk).1
   rw [List.length_append, List.length_singleton, hlen] at hkl
   by_cases h1 : k < H.length
   ·obtain ⟨_, k2⟩ := old hk h1 hak
    exact .inr ⟨k, ok, k2, hak, by rw [ext_lt h1]⟩
   ·have : k = H.length := by omega
    subst this
    exact .inr ⟨t, o, ht, ha, by rw [ext_eq]⟩

/-- Some cells of a variable are written. -/
theorem store_cells (hR : R B w0 μ Z H w) {id : Nat} {cs : List AV} (hid : H[id]? = some (.cells cs)) {off : Nat} {vs : List AV} {cvs : List Value}
  (hl : vs.length = cvs.length) (hoff : off + vs.length ≤ cs.length) (h1 : ∀ (j : Nat) (v : AV), vs[j]? = some v → ∃ v', cvs[j]? = some v' ∧ VR μ Z w H.length v v') (hone : vs.all AV.one = true) :
  (storeCells ⟨(μ id).1, (μ id).2 + off, none⟩ cvs 0).run P w = .ok () (w.setCells (μ id).1 ((μ id).2 + off) cvs) ∧
  R B w0 μ Z (H.set id (.cells (putA cs off vs))) (w.setCells (μ id).1 ((μ id).2 + off) cvs) ∧ Ev μ Z H w μ Z (H.set id (.cells (putA cs off vs))) (w.setCells (μ id).1 ((μ id).2 + off) cvs) := by
 have hlt := (List.getElem?_eq_some_iff.1 hid).1
 obtain ⟨hb, hz, ccs, e, fr, hblk, hfr, hsz, hcs⟩ := hR.obj id _ hid
 have honec : ∀ v, v ∈ cvs → v.oneCell' = true := by
  intro v hv
  obtain ⟨j, hj⟩ := List.getElem?_of_mem hv
  have hjl : j < vs.length := by have := (List.getElem?_eq_some_iff.1 hj).1; omega
  obtain ⟨v', k1, k2⟩ := h1 j vs[j] (List.getElem?_eq_getElem hjl)
  rw [hj] at k1; cases k1
  exact k2.one (List.all_eq_true.1 hone _ (List.getElem_mem hjl))
 have hcell : ∀ k, k < ccs.size → w.cell? ⟨(μ id).1, k, none⟩ = ccs[k]? := fun k _ => cell_of_row w _ _ ccs e fr hblk
 refine ⟨?_, ?_⟩
 ·have := run_storeCells_cells (P := P) (μ id).1 ((μ id).2 + off) cvs 0 w (fun j hj => by
   rw [Nat.add_zero, hcell _ (by omega)]
   simp; omega) (fun j hj => by rw [Nat.add_zero]; exact hfr _ (by omega)) honec
  rw [Nat.add_zero] at this
  exact this
 ·obtain ⟨cs', k1, k2, k3, k4, k5, k6, k7, k8⟩ := setCells_block (μ id).1 cvs ((μ id).2 + off) w ccs e fr hblk
  refine hR.change hid rfl (fun k _ hk => k4 k hk) k5 k6 k7 k8 ?_ ?_ ?_
  ·intro c o hzc
   exact World.cell?_of_block (a := ⟨c, o, none⟩) (k4 c (fun e => hz o (e ▸ hzc)))
  ·unfold World.shape?; rw [k1, hblk]; simp only [k2]
  ·intro hzc hsh
   refine ⟨hb, hz, cs', e, fr, k1, ?_, ?_, ?_⟩
   ·intro o ho
    rw [World.frozen?_setCells]
    exact hfr o (by omega)
   ·simp [putA]; omega
   ·intro j v hj
    rw [k3 _ (by omega)]
    unfold putA at hj
    by_cases hj1 : j < off
    ·rw [if_neg (by omega)]
     rw [List.append_assoc, List.getElem?_append_left (by simp; omega), List.getElem?_take, if_pos hj1] at hj
     obtain ⟨v', q1, q2, q3⟩ := hcs j v hj
     exact ⟨v', q1, q2, q3.mono (Nat.le_refl _) (fun _ _ => rfl) (fun _ _ h => h) hzc hsh⟩
    ·by_cases hj2 : j < off + vs.length
     ·rw [if_pos (by omega)]
      rw [List.append_assoc, List.getElem?_append_right (by simp; omega), List.getElem?_append_left (by simp; omega)] at hj
      have e1 : j - (List.take off cs).length = j - off := by simp; omega
      rw [e1] at hj
      obtain ⟨v', q1, q2⟩ := h1 _ _ hj
      refine ⟨v', by rw [show (μ id).2 + j - ((μ id).2 + off) = j - off by omega]; exact q1, q2.one (List.all_eq_true.1 hone _ (List.mem_of_getElem? hj)), q2.mono (Nat.le_refl _) (fun _ _ => rfl) (fun _ _ h => h) hzc hsh⟩
     ·rw [if_neg (by omega)]
      rw [List.getElem?_append_right (by simp; omega), List.getElem?_drop] at hj
      have e1 : off + vs.length + (j - (List.take off cs ++ vs).length) = j := by simp; omega
      rw [e1] at hj
      obtain ⟨v', q1, q2, q3⟩ := hcs j v hj
      exact ⟨v', q1, q2, q3.mono (Nat.le_refl _) (fun _ _ => rfl) (fun _ _ h => h) hzc hsh⟩
end
end Go.Av
end
