/- the layer over the model, part 12 -/
import Derived.Sort.Grow
import Derived.Test.YtahhhfgmcdajhaaA11
set_option autoImplicit false
set_option linter.unusedSimpArgs false
set_option linter.unusedVariables false
set_option linter.unnecessarySimpa false
section
set_option linter.unusedSimpArgs false
set_option linter.unusedVariables false
namespace Go.Av
open Go.RowKit Go.Sort
section
variable {P : Program} {B : Nat} {w0 : World} {H : AHeap} {μ : Nat → Nat × Nat} {Z : Nat → Nat → Prop} {w w' : World}
theorem kI2 {c : IntKind} {a b : Int} {tl : Tail} {l l' : List AV} (k : Wk l l') : Wk (.dl 1 (List.map (AV.int c) [a, b]) .none :: l) (.dl 1 [.int c a, .int c b] tl :: l') := Wk.cons (wkI2 c a b tl) k
theorem kI3 {c : IntKind} {a b d : Int} {tl : Tail} {l l' : List AV} (k : Wk l l') : Wk (.dl 1 (List.map (AV.int c) [a, b, d]) .none :: l) (.dl 1 [.int c a, .int c b, .int c d] tl :: l') := Wk.cons (wkI3 c a b d tl) k
theorem R.ahead (hR : R B w0 μ Z H w) (n : Nat) : R B w0 μ Z H (Sort.ahead w n) := by
 refine ⟨hR.below.trans ⟨rfl, rfl, rfl, Nat.le_refl _, fun _ _ => rfl⟩, hR.hB, hR.zlt, fun id o h => ?_, hR.inj⟩
 have hlt := (List.getElem?_eq_some_iff.1 h).1
 exact OR.keep (hR.obj id o h) hlt (Nat.le_refl _) (fun _ _ => rfl) (fun _ _ h => h) (fun _ _ _ => rfl) (fun _ _ => rfl) (Nat.le_refl _) (fun _ => rfl) (fun _ h => h)
theorem Ev.ahead (n : Nat) : Ev μ Z H w μ Z H (Sort.ahead w n) := ⟨Nat.le_refl _, fun _ _ => rfl, fun _ _ h => h, fun _ _ _ => rfl, fun _ _ => rfl, Nat.le_refl _, fun _ _ _ => rfl, fun id o h ha => .inr ⟨id, o, h, ha, rfl⟩, fun _ _ h => .inl h⟩
theorem shape_grow (w : World) (os : Array Obj) (c : Nat) (h : c < w.heap.size) : (grow w os).shape? c = w.shape? c := by
 unfold World.shape?; rw [heap_grow_old w os h]
theorem R.growS (hR : R B w0 μ Z H w) (os : Array Obj) : R B w0 μ Z H (Sort.grow w os) := by
 have hz : ∀ c o, Z c o → (Sort.grow w os).cell? ⟨c, o, none⟩ = w.cell? ⟨c, o, none⟩ := fun c o h => cell?_grow w os _ (hR.zlt c o h)
 refine ⟨hR.below.trans ⟨rfl, rfl, rfl, by simp, fun k hk => heap_grow_old w os (by have := hR.hB; omega)⟩, by have := hR.hB; simp; omega, fun c o h => by have := hR.zlt c o h; simp; omega, fun id o h => ?_, hR.inj⟩
 have hlt := (List.getElem?_eq_some_iff.1 h).1
 exact OR.keep (hR.obj id o h) hlt (Nat.le_refl _) (fun _ _ => rfl) (fun _ _ h => h) hz (fun c hc => shape_grow w os c hc) (by simp) (fun ha => heap_grow_old w os (hR.lt h ha)) (fun _ h => h)
theorem Ev.growS (hR : R B w0 μ Z H w) (os : Array Obj) : Ev μ Z H w μ Z H (Sort.grow w os) :=
 ⟨Nat.le_refl _, fun _ _ => rfl, fun _ _ h => h, fun c o h => cell?_grow w os _ (hR.zlt c o h), fun c hc => shape_grow w os c hc, by simp, fun c hc _ => heap_grow_old w os hc, fun id o h ha => .inr ⟨id, o, h, ha, rfl⟩, fun _ _ h => .inl h⟩
theorem heap_mapBlock (w : World) (blk : Nat) (f : Array Value → Array Value) (k : Nat) (h : k ≠ blk) : (mapBlock w blk f).heap[k]? = w.heap[k]? := by
 unfold mapBlock; simp only [Array.getElem?_modify]; rw [if_neg (fun e => h e.symm)]
theorem heap_mapBlock_self (w : World) (blk : Nat) (f : Array Value → Array Value) {ccs : Array Value} {e : TypeId} {fr : Nat × Nat} (h : w.heap[blk]? = some (.cells ccs e fr)) : (mapBlock w blk f).heap[blk]? = some (.cells (f ccs) e fr) := by
 unfold mapBlock; simp only [Array.getElem?_modify, if_true, h, Option.map_some, onCells]
theorem putCells_get {α : Type} [Inhabited α] (enc : α → Value) (off : Nat) (d : Array α) (c : Array Value) (k : Nat) : (putCells enc off d c)[k]? = (c[k]?).map fun x => if off ≤ k ∧ k < off + d.size then enc d[k - off]! else x := by
 unfold putCells; rw [Array.getElem?_mapIdx]
/-- A row of one's own block is laid anew. -/
theorem R.putRow {α : Type} [Inhabited α] (enc : α → Value) (encA : α → AV) (he : ∀ (μ : Nat → Nat × Nat) (Z : Nat → Nat → Prop) (w : World) (n : Nat) (x : α), VR μ Z w n (encA x) (enc x)) (h1 : ∀ x, (enc x).oneCell' = true) (hR : R B w0 μ Z H w) {id : Nat} {cs : List AV} (hid : H[id]? = some (.cells cs)) (zs : List α) (hl : zs.length = cs.length) :
  R B w0 μ Z (H.set id (.cells (zs.map encA))) (Sort.putRow enc w (μ id).1 (μ id).2 zs.toArray) ∧ Ev μ Z H w μ Z (H.set id (.cells (zs.map encA))) (Sort.putRow enc w (μ id).1 (μ id).2 zs.toArray) := by
 obtain ⟨b1, b2, ccs, e, fr, b3, b4, b5, b6⟩ := hR.obj id _ hid
 have hoth : ∀ k, k ≠ (μ id).1 → (Sort.putRow enc w (μ id).1 (μ id).2 zs.toArray).heap[k]? = w.heap[k]? := fun k hk => heap_mapBlock w _ _ k hk
 have hself : (Sort.putRow enc w (μ id).1 (μ id).2 zs.toArray).heap[(μ id).1]? = some (.cells (putCells enc (μ id).2 zs.toArray ccs) e fr) := heap_mapBlock_self w _ _ b3
 have hsz : (putCells enc (μ id).2 zs.toArray ccs).size = ccs.size := by unfold putCells; simp
 refine R.change hR hid rfl (fun k _ hk => hoth k hk) (by unfold Sort.putRow mapBlock; simp) rfl rfl rfl (fun c o hz => World.cell?_of_block (hoth c (fun q => b2 o (q ▸ hz)))) ?_ (fun hz hs => ?_)
 ·unfold World.shape?; rw [hself, b3]; simp only [hsz]
 ·refine ⟨b1, b2, _, e, fr, hself, fun o ho => ?_, by rw [List.length_map, hsz, hl]; exact b5, fun j v hj => ?_⟩
  ·have := b4 o (by rw [← hsz]; exact ho)
   unfold World.frozen? at this ⊢
   rw [b3] at this
   rw [hself]
   exact this
  ·rw [List.getElem?_map] at hj
   obtain ⟨x, hx, rfl⟩ := Option.map_eq_some_iff.1 hj
   have hjl := (List.getElem?_eq_some_iff.1 hx).1
   refine ⟨enc x, ?_, h1 x, he _ _ _ _ x⟩
   have hlt : (μ id).2 + j < ccs.size := by omega
   rw [putCells_get, Array.getElem?_eq_getElem hlt, Option.map_some, if_pos ⟨by omega, by simp; omega⟩, Nat.add_sub_cancel_left, getElem!_pos _ j (by simpa using hjl)]
   have := (List.getElem?_eq_some_iff.1 hx).2
   simp [this]
/-- slices.Sort of ints, out of its contract. -/
theorem ACall.sortI {f : FuncId} {L L' : List Item} {K : AV → AHeap → Prop} (hf : ∀ args w, (callFunc f args).run P w = .ok (.enter f args) w)
  (hC : ∀ (blk off cap : Nat) (zs : List Int) (w : World), Holds (Value.int .i64) w blk off zs.toArray → blk < w.heap.size → zs.length < 4611686018427387904 →
   Calls P f #[.slice (some ⟨blk, off, none⟩) zs.length cap] w fun e w' => e = .returned (.tuple #[]) ∧ ∃ n os, w' = Sort.grow (Sort.putRow (Value.int .i64) (Sort.ahead w n) blk off (zs.mergeSort fun x y => decide (x ≤ y)).toArray) os)
  {id : Nat} {l : List Int} (hp : Pull L (.obj id (.cells (List.map (AV.int .i64) l))) L') (hS : Hv H L) (hl : l.length < 4611686018427387904)
  (hK : ∀ H', Hv H' (.obj id (.cells (List.map (AV.int .i64) (l.mergeSort fun x y => decide (x ≤ y)))) :: L') → K (.tup []) H') : ACall P B w0 f [.sl 1 id 0 l.length] H K := by
 refine ⟨hf, fun μ Z w cargs hR ha => ?_⟩
 have hs := hS.pull hp
 have hid : H[id]? = some (.cells (List.map (AV.int .i64) l)) := hs.each _ (List.mem_cons_self ..)
 obtain ⟨ha1, ha2⟩ := ha
 obtain ⟨cv, hcv, hvr⟩ := ha2 0 _ rfl
 have hca : cargs = #[cv] := by
  apply Array.ext_getElem?
  intro k
  cases k with
  | zero => rw [hcv]; rfl
  | succ k => rw [Array.getElem?_eq_none (by rw [← ha1]; simp), Array.getElem?_eq_none (by simp)]
 subst hca
 cases hvr with
 | sl _ _ _ _ cap h hc hsz e N hN hcap =>
 obtain ⟨b1, b2, ccs, e', fr, b3, b4, b5, b6⟩ := hR.obj id _ hid
 have hblk : (μ id).1 < w.heap.size := hR.lt hid rfl
 have hH : Holds (Value.int .i64) w (μ id).1 ((μ id).2 + 0) l.toArray := fun j hj => by
  have hj' : j < l.length := by simpa using hj
  obtain ⟨v', c1, c2, c3⟩ := b6 j (.int .i64 l[j]) (by rw [List.getElem?_map, List.getElem?_eq_getElem hj']; rfl)
  cases c3
  refine ⟨?_, b4 _ (by rw [List.length_map] at b5; omega)⟩
  unfold World.cell?
  simp only [b3]
  rw [getElem!_pos _ j (by simpa using hj')]
  simpa using c1
 rw [show FW none = Fence.wide from rfl, callsIn_wide]
 refine (hC (μ id).1 ((μ id).2 + 0) cap l w hH hblk hl).mono ?_
 rintro ev w' ⟨rfl, n, os, rfl⟩
 rw [Nat.add_zero]
 have r1 := hR.ahead n
 obtain ⟨r2, e2⟩ := R.putRow (Value.int .i64) (AV.int .i64) (fun _ _ _ _ x => .int .i64 x) (fun _ => rfl) r1 hid (l.mergeSort fun x y => decide (x ≤ y)) (by simp)
 refine ⟨.tup [], .tuple #[], μ, Z, _, rfl, r2.growS os, .tup [] #[] rfl (fun _ => default) (fun _ _ h => by simp at h) (fun _ _ h => by simp at h), ((Ev.ahead n).trans e2).trans (Ev.growS r2 os), hK _ ?_⟩
 exact hs.set (y := .obj _ _) rfl _ (get_set_self _ hid) (fun j h => by cases h; rfl)
theorem ACall.sortO {f : FuncId} {L L' : List Item} {K : AV → AHeap → Prop} (hf : ∀ args w, (callFunc f args).run P w = .ok (.enter f args) w)
  (hC : ∀ (blk off cap : Nat) (zs : List Int) (w : World), Holds (Value.int .i64) w blk off zs.toArray → blk < w.heap.size → zs.length < 4611686018427387904 →
   Calls P f #[.slice (some ⟨blk, off, none⟩) zs.length cap] w fun e w' => e = .returned (.tuple #[]) ∧ ∃ n os, w' = Sort.grow (Sort.putRow (Value.int .i64) (Sort.ahead w n) blk off (zs.mergeSort fun x y => decide (x ≤ y)).toArray) os)
  (hN : ∀ (p : Option Addr) (cap : Nat) (w : World), Calls P f #[.slice p 0 cap] w fun e w' => e = .returned (.tuple #[]) ∧ w' = w)
  {v : AV} {l : List Int} (hp : Pull L (.own 1 v (List.map (AV.int .i64) l)) L') (hS : Hv H L) (hl : l.length < 4611686018427387904)
  (hK : ∀ H', Hv H' (.own 1 v (List.map (AV.int .i64) (l.mergeSort fun x y => decide (x ≤ y))) :: L') → K (.tup []) H') : ACall P B w0 f [v] H K := by
 have hs := hS.pull hp
 rcases hs.each _ (List.mem_cons_self ..) with ⟨s, rfl, hcs⟩ | ⟨id, len, rfl, hlen, hid⟩
 ·have h0 : l = [] := List.map_eq_nil_iff.1 hcs
  subst h0
  refine ⟨hf, fun μ Z w cargs hR ha => ?_⟩
  obtain ⟨ha1, ha2⟩ := ha
  obtain ⟨cv, hcv, hvr⟩ := ha2 0 _ rfl
  have hca : cargs = #[cv] := by
   apply Array.ext_getElem?
   intro k
   cases k with
   | zero => rw [hcv]; rfl
   | succ k => rw [Array.getElem?_eq_none (by rw [← ha1]; simp), Array.getElem?_eq_none (by simp)]
  subst hca
  have fin : ∀ (a : Option Addr) (cap : Nat), CallsIn (FW none) 0 P f #[.slice a 0 cap] w fun e w' => ∃ v cv μ' Z' H', e = .returned cv ∧ R B w0 μ' Z' H' w' ∧ VR μ' Z' w' H'.length v cv ∧ Ev μ Z H w μ' Z' H' w' ∧ K v H' := fun a cap => by
   rw [show FW none = Fence.wide from rfl, callsIn_wide]
   refine (hN a cap w).mono ?_
   rintro ev w' ⟨rfl, rfl⟩
   exact ⟨.tup [], .tuple #[], μ, Z, H, rfl, hR, .tup [] #[] rfl (fun _ => default) (fun _ _ h => by simp at h) (fun _ _ h => by simp at h), ⟨Nat.le_refl _, fun _ _ => rfl, fun _ _ h => h, fun _ _ _ => rfl, fun _ _ => rfl, Nat.le_refl _, fun _ _ _ => rfl, fun id o h ha => .inr ⟨id, o, h, ha, rfl⟩, fun _ _ h => .inl h⟩, hK _ (by rw [List.mergeSort_nil]; exact hs)⟩
  cases hvr with
  | dl0 _ _ a cap h ht => exact fin a cap
  | dl _ _ _ c o cap f hs hc h1 h2 h3 h5 ht => exact fin _ cap
 ·have hle : len = l.length := by rw [List.length_map] at hlen; omega
  subst hle
  refine ACall.sortI hf hC .here (hs.as (y := .obj id (.cells (List.map (AV.int .i64) l))) hid (fun i hi => hi)) hl (fun H' h => hK H' ?_)
  exact h.as (y := .own 1 (.sl 1 id 0 l.length) _) (.inr ⟨id, l.length, rfl, by simp, h.each _ (List.mem_cons_self ..)⟩) (fun i hi => hi)
end
end Go.Av
end

section
set_option linter.unusedSimpArgs false
set_option linter.unusedVariables false
namespace Go.Av
open Go.RowKit
/-! Code that is not yet reached is held under a name, so that the reckoning does not go through it. -/
section
variable {P : Program} {B : Nat} {w0 : World} {rd : Option Nat} {Y : Hand} {a : List AV} {H : AHeap} {Q : Exit → List AV → AHeap → Prop} {x y c k : Code} {t : Operand} {id : Nat}
variable {K : AV → AHeap → Prop} {args : List AV} {u v : AV}
theorem atGF {f : Nat} (h : ACall P B w0 f args H K) : ACall P B w0 f args H K := h
theorem atGL (h : AWP P B w0 rd (.loop c) Q a H) : AWP P B w0 rd (.loop c) Q a H := h
theorem atGD {ops : Array Oper} (h : AWP P B w0 rd (.region id ops true) Q a H) : AWP P B w0 rd (.region id ops true) Q a H := h
theorem atGX {σ : Type} {p : σ → Prop} (h : ∃ s, p s) : ∃ s, p s := h
theorem atGS {t : TypeId} (h : StoE P t u v H K) : StoE P t u v H K := h
theorem atGA {t : TypeId} (h : eop P B w0 Y a H (.alloc t) K) : eop P B w0 Y a H (.alloc t) K := h
theorem atGP {t t2 : TypeId} (h : AppE P t t2 u v H K) : AppE P t t2 u v H K := h
end
end Go.Av
end

section
set_option linter.unusedSimpArgs false
set_option linter.unusedVariables false
namespace Go.Av
open Go.RowKit
/-! A range over a function that its body may leave, also within another one. -/
def isLp (o : AObj) : Prop := ∃ (env : List AV) (ps : Array Tmp) (as bd : Code) (pe : Option Code) (rdy : Bool), o = .loop env ps as bd pe rdy
/-- the record between the rounds: nothing is pending (0), a return (1), an exit (i + 2) -/
def lpX (a : List AV) (ps : Array Tmp) (as bd : Code) : Nat → AObj
 | 0 => .loop a ps as bd none true
 | 1 => .loop a ps as bd (some .ret) false
 | i + 2 => .loop a ps as bd (some (.exit i)) false
theorem Hv.setL {H : AHeap} {L : List Item} {l : Nat} {o : AObj} (h : Hv H (.obj l o :: L)) (o' : AObj) : Hv (H.set l o') (.obj l o' :: L) :=
 h.set (x := .obj l o) (y := .obj l o') rfl o' (get_set_self _ (h.each (.obj l o) (List.mem_cons_self ..))) (fun j e => by cases e; rfl)
end Go.Av
namespace Go.Av
open Go.RowKit
/-- the same, where the round begins with any code -/
theorem AWP.rangeGo6 {P : Program} {B : Nat} {w0 : World} {rd : Option Nat} {a : List AV} {H : AHeap} {L : List Item} {g : Operand} {ps : Array Tmp} {assign body : Code} {Q : Exit → List AV → AHeap → Prop} {k : Nat} {first cap : List AV}
  (hrd : ∀ l0, rd = some l0 → ∃ o, isLp o ∧ H[l0]? = some o) (hg : ev a g = .fn (.func k) first cap) (hS : Hv H L)
  (h : ∀ (l : Nat) (H1 : AHeap) (lpx : Nat → AObj) (KE : AV → AHeap → Prop), isLp (lpx 0) →
   (∀ (args : List AV) (H : AHeap) (K : AV → AHeap → Prop) (M : List Item), Hv H (.obj l (lpx 0) :: M) → args.length = ps.size →
    (∀ (Qa : Exit → List AV → AHeap → Prop),
     (∀ (a2 : List AV) (H2 : AHeap) (M2 : List Item), Hv H2 (.obj l (lpx 0) :: M2) →
      (∀ (H' : AHeap) (lp2 : AObj) (Qr : Exit → List AV → AHeap → Prop), isLp lp2 → Hv H' (.obj l lp2 :: M2) →
       (∀ (a3 : List AV) (H3 : AHeap) (M3 : List Item), Hv H3 (.obj l lp2 :: M3) → (∀ H4, Hv H4 (.obj l (lpx 0) :: M3) → K (.bool true) H4) → Qr .normal a3 H3) →
       (∀ (a3 : List AV) (H3 : AHeap) (M3 : List Item), Hv H3 (.obj l lp2 :: M3) → (∀ H4, Hv H4 (.obj l (lpx 1) :: M3) → K (.bool false) H4) → Qr .ret a3 H3) →
       (∀ (i : Nat) (a3 : List AV) (H3 : AHeap) (M3 : List Item), Hv H3 (.obj l lp2 :: M3) → (∀ H4, Hv H4 (.obj l (lpx (i + 2)) :: M3) → K (.bool false) H4) → Qr (.exit i) a3 H3) →
       AWP P B w0 (some l) body Qr a2 H') → Qa .normal a2 H2) →
     AWP P B w0 (some l) assign Qa (setArgs a ps.toList args) H) → roundY P B w0 l args H K) →
   (∀ (v : AV) (H : AHeap) (M : List Item), Hv H (.obj l (lpx 0) :: M) → (∀ H', Hv H' M → Q .normal a H') → KE v H) →
   (∀ (v : AV) (H : AHeap) (M : List Item), Hv H (.obj l (lpx 1) :: M) → (∀ H', Hv H' M → Q .ret a H') → KE v H) →
   (∀ (i : Nat) (v : AV) (H : AHeap) (M : List Item), Hv H (.obj l (lpx (i + 2)) :: M) → (∀ H', Hv H' M → Q (.exit i) a H') → KE v H) →
   Hv H1 (.obj l (lpx 0) :: L) → ACall P B w0 k (first ++ [.fn (.yield l) [] []] ++ cap) H1 KE) : AWP P B w0 rd (.rangeFunc g ps assign body) Q a H := by
 refine AWP.rangeFunc (fun l0 e => ?_) hg (h H.length _ (lpX a ps assign body) _ ⟨_, _, _, _, _, _, rfl⟩ ?_ ?_ ?_ ?_ (hS.pushO _))
 ·obtain ⟨o, ⟨env, ps, as, bd, pe, rdy, rfl⟩, ho⟩ := hrd l0 e
  exact ⟨env, ps, as, bd, pe, rdy, ho⟩
 ·intro args H2 K M hM hps hB
  refine ⟨a, ps, assign, body, hM.each (.obj _ _) (List.mem_cons_self ..), hps, hB _ ?_⟩
  intro a2 H3 M2 hM2 hC
  refine ⟨hM2.each (.obj _ _) (List.mem_cons_self ..), ?_⟩
  refine hC _ (.loop a ps assign body none false) _ ⟨_, _, _, _, _, _, rfl⟩ (hM2.setL _) ?_ ?_ ?_
  ·intro a3 H3 M3 hM3 hK
   exact ⟨hM3.each (.obj _ _) (List.mem_cons_self ..), hK _ (hM3.setL _)⟩
  ·intro a3 H3 M3 hM3 hK
   exact ⟨hM3.each (.obj _ _) (List.mem_cons_self ..), hK _ (hM3.setL _)⟩
  ·intro i a3 H3 M3 hM3 hK
   exact ⟨hM3.each (.obj _ _) (List.mem_cons_self ..), hK _ (hM3.setL _)⟩
 ·intro v H2 M hM hQ
  exact ⟨none, true, hM.each (.obj _ _) (List.mem_cons_self ..), .inl rfl, hQ _ (hM.setL .dead).drop⟩
 ·intro v H2 M hM hQ
  exact ⟨some .ret, false, hM.each (.obj _ _) (List.mem_cons_self ..), .inr rfl, AWP.ret (hQ _ (hM.setL .dead).drop)⟩
 ·intro i v H2 M hM hQ
  exact ⟨some (.exit i), false, hM.each (.obj _ _) (List.mem_cons_self ..), .inr rfl, AWP.exit (hQ _ (hM.setL .dead).drop)⟩
end Go.Av
namespace Go.Av
theorem Hv.obj {H : AHeap} {L : List Item} {id : Nat} {o : AObj} (h : Hv H L) (hm : Item.obj id o ∈ L) : H[id]? = some o := h.each _ hm
end Go.Av
namespace Go.Av
open Go.RowKit
/-! Less may be said of values, however deep. -/
def wkS (x y : AV) : Prop := ∀ (μ : Nat → Nat × Nat) (Z : Nat → Nat → Prop) (w : World) (n : Nat) (c : Value), VR μ Z w n y c → VR μ Z w n x c
def WkS : List AV → List AV → Prop
 | [], [] => True
 | x :: l, y :: l' => wkS x y ∧ WkS l l'
 | _, _ => False
theorem WkS.spec : ∀ {l l' : List AV}, WkS l l' → l.length = l'.length ∧ ∀ (j : Nat) (v : AV), l[j]? = some v → ∃ v', l'[j]? = some v' ∧ wkS v v'
 | [], [], _ => ⟨rfl, fun j v h => by simp at h⟩
 | x :: l, y :: l', h => by
  obtain ⟨h1, h2⟩ := WkS.spec h.2
  refine ⟨by simp [h1], fun j v hj => ?_⟩
  cases j with
  | zero => simp at hj; subst hj; exact ⟨y, by simp, h.1⟩
  | succ j => obtain ⟨v', q1, q2⟩ := h2 j v (by simpa using hj); exact ⟨v', by simpa using q1, q2⟩
 | [], _ :: _, h => h.elim
 | _ :: _, [], h => h.elim
theorem WkS.vrs {l l' : List AV} {μ : Nat → Nat × Nat} {Z : Nat → Nat → Prop} {w : World} {n : Nat} {vs : Array Value} (h : WkS l l') (k : VRs μ Z w n l' vs) : VRs μ Z w n l vs := by
 obtain ⟨h1, h2⟩ := h.spec
 refine ⟨h1.trans k.1, fun j v hj => ?_⟩
 obtain ⟨v', q1, q2⟩ := h2 j v hj
 obtain ⟨c, p1, p2⟩ := k.2 j v' q1
 exact ⟨c, p1, q2 _ _ _ _ _ p2⟩
theorem wkS.v {x y : AV} (h : wkV x y) : wkS x y := fun _ _ _ _ _ k => k.weak h
theorem wkS.agg {l l' : List AV} (h : WkS l l') : wkS (.agg l) (.agg l') := by
 intro μ Z w n c k
 obtain ⟨h1, h2⟩ := h.spec
 cases k with
 | agg _ vs hl f p1 p2 =>
  refine .agg _ vs (h1.trans hl) f (fun j v hj => ?_) (fun j v hj => ?_)
  ·obtain ⟨v', q1, _⟩ := h2 j v hj; exact p1 j v' q1
  ·obtain ⟨v', q1, q2⟩ := h2 j v hj; exact q2 _ _ _ _ _ (p2 j v' q1)
theorem wkS.dl {sz : Nat} {es es' : List AV} {tl : Tail} (hl : es.length = es'.length) (hs : ∀ e, e ∈ es → e.cells.length = sz) (h : WkS (flat es) (flat es')) : wkS (.dl sz es .none) (.dl sz es' tl) := by
 intro μ Z w n c k
 obtain ⟨h1, h2⟩ := h.spec
 cases k with
 | dl0 _ _ a cap p1 p2 =>
  obtain rfl : es = [] := List.length_eq_zero_iff.1 hl
  exact .dl0 sz .none a cap (fun e => by cases e) (fun t e => by cases e)
 | dl _ _ _ c o cap f q0 qc q1 q2 q3 q5 qt =>
  rw [← hl]
  refine .dl sz es .none c o cap f hs (by omega) (fun j v hj => ?_) (fun j hj => q2 j (by omega)) (fun j v hj => ?_) (fun j hj => q5 j (by omega)) trivial
  ·obtain ⟨v', p1, _⟩ := h2 j v hj; exact q1 j v' p1
  ·obtain ⟨v', p1, p2⟩ := h2 j v hj; exact p2 _ _ _ _ _ (q3 j v' p1)
theorem ACall.wkS {P : Program} {B : Nat} {w0 : World} {f : FuncId} {args args' : List AV} {H : AHeap} {K : AV → AHeap → Prop} (hw : WkS args' args) (h : ACall P B w0 f args' H K) : ACall P B w0 f args H K :=
 ⟨h.1, fun μ Z w cargs hR hA => h.2 μ Z w cargs hR (hw.vrs hA)⟩
section
variable {l l' : List AV} {x y : AV}
end
end Go.Av
namespace Go.Av
end Go.Av
end

section
set_option linter.unusedSimpArgs false
set_option linter.unusedVariables false
namespace Go.Av
open Go.RowKit
/-! Code is named by its place in the function's body; what a place holds is looked up when it is reached. -/
def cL : Code → Code
 | .seq x _ => x
 | .cond _ x _ => x
 | .block _ c => c
 | .loop c => c
 | .rangeFunc _ _ x _ => x
 | c => c
def cR : Code → Code
 | .seq _ y => y
 | .cond _ _ y => y
 | .rangeFunc _ _ _ y => y
 | c => c
def bodyOf (fn : Func) : Code := fn.body.getD .skip
theorem ACall.enterK {P : Program} {B : Nat} {w0 : World} {H : AHeap} {f : FuncId} {args : List AV} {K : AV → AHeap → Prop} (fn : Func) (hf : P.funcs[f]? = some fn) (hname : (fn.name == "runtime.NumGoroutine") = false) (hb : fn.body.isSome = true)
  (h : AWP P B w0 none (bodyOf fn) (bodyQ P fn K) (args ++ List.replicate (fn.ntmps - args.length) .undef) H) : ACall P B w0 f args H K := by
 refine ACall.enter hf hname (c := bodyOf fn) ?_ h
 unfold bodyOf
 cases hc : fn.body with
 | none => rw [hc] at hb; cases hb
 | some c => rfl
section
variable {P : Program} {B : Nat} {w0 : World} {rd : Option Nat} {Y : Hand} {a : List AV} {H : AHeap} {Q : Exit → List AV → AHeap → Prop} {k : Code} {t : Operand} {id : Nat}
theorem atEany (h : eawp P B w0 rd Y k Q a H) : eawp P B w0 rd Y k Q a H := h
theorem pSeq (e : k = .seq (cL k) (cR k)) (h : eawp P B w0 rd Y (cL k) (thenQ (eawp P B w0 rd Y (cR k) Q) Q) a H) : eawp P B w0 rd Y k Q a H := by
 rw [e, eawp_seq]; exact h
theorem pCond (e : k = .cond t (cL k) (cR k)) (h : branch (ev a t) (eawp P B w0 rd Y (cL k) Q) (eawp P B w0 rd Y (cR k) Q) a H) : eawp P B w0 rd Y k Q a H := by
 rw [e, eawp_cond]; exact h
theorem pBlk (e : k = .block id (cL k)) (h : eawp P B w0 rd Y (cL k) (blockQ id Q) a H) : eawp P B w0 rd Y k Q a H := by
 rw [e, eawp_block]; exact h
theorem pLoop (e : k = .loop (cL k)) (h : AWP P B w0 rd (.loop (cL k)) Q a H) : eawp P B w0 rd Y k Q a H := by
 rw [e]; exact h
theorem pRange {g : Operand} {ps : Array Tmp} (e : k = .rangeFunc g ps (cL k) (cR k)) (h : AWP P B w0 rd (.rangeFunc g ps (cL k) (cR k)) Q a H) : eawp P B w0 rd Y k Q a H := by
 rw [e]; exact h
theorem pReg {ops : Array Oper} (e : k = .region id ops false) (h : eops P B w0 Y ops.toList ops.toList (Q .normal) a H) : eawp P B w0 rd Y k Q a H := by
 rw [e]; exact h
theorem pDraw {ops : Array Oper} (e : k = .region id ops true) (h : AWP P B w0 rd (.region id ops true) Q a H) : eawp P B w0 rd Y k Q a H := by
 rw [e]; exact h
theorem pSkip (e : k = .skip) (h : Q .normal a H) : eawp P B w0 rd Y k Q a H := by rw [e]; exact h
theorem pExit (e : k = .exit id) (h : Q (.exit id) a H) : eawp P B w0 rd Y k Q a H := by rw [e]; exact h
theorem pRet (e : k = .ret) (h : Q .ret a H) : eawp P B w0 rd Y k Q a H := by rw [e]; exact h
end
end Go.Av
namespace Go.Av
theorem gAny {ρ : Type} {c : Prop} {i : Decidable c} {x : Option ρ} {r : ρ} (h : (@ite _ c i x none) = some r) : c ∧ x = some r := guard_some h
section
variable {a b c d e f : Prop}
theorem qN (h : ¬ c) : (c = False) := eq_false h
theorem qS1 (h : (c ∧ d) ∧ ¬ e) : ((c = True) ∧ (d = True) ∧ (e = False)) := ⟨eq_true h.1.1, eq_true h.1.2, eq_false h.2⟩
theorem qS2 (h : b ∧ (c ∧ d) ∧ ¬ e) : ((b = True) ∧ (c = True) ∧ (d = True) ∧ (e = False)) := ⟨eq_true h.1, qS1 h.2⟩
theorem qS3 (h : a ∧ b ∧ (c ∧ d) ∧ ¬ e) : ((a = True) ∧ (b = True) ∧ (c = True) ∧ (d = True) ∧ (e = False)) := ⟨eq_true h.1, qS2 h.2⟩
theorem q4 (h : c ∧ d ∧ e ∧ f) : ((c = True) ∧ (d = True) ∧ (e = True) ∧ (f = True)) := ⟨eq_true h.1, eq_true h.2.1, eq_true h.2.2.1, eq_true h.2.2.2⟩
theorem q3 (h : c ∧ d ∧ e) : ((c = True) ∧ (d = True) ∧ (e = True)) := ⟨eq_true h.1, eq_true h.2.1, eq_true h.2.2⟩
theorem q2 (h : c ∧ d) : ((c = True) ∧ (d = True)) := ⟨eq_true h.1, eq_true h.2⟩
theorem q1 (h : c) : (c = True) := eq_true h
end
end Go.Av
namespace Go.Av
theorem atGBr {p x y : Prop} (h : Br p x y) : Br p x y := h
theorem atGbr {v : AV} {f g : List AV → AHeap → Prop} {a : List AV} {H : AHeap} (h : branch v f g a H) : branch v f g a H := h
end Go.Av
end

section
set_option linter.unusedSimpArgs false
set_option linter.unusedVariables false
namespace Go.Av
open Go.RowKit
/-! The places of an activation, of which only those that hold something are told. -/
/-- Held as an instance, so that the reckoning does not go through it. -/
class EnvL where
 l : List (Nat × AV)
def lookL : List (Nat × AV) → Nat → AV
 | [], _ => .undef
 | (j, v) :: l, i => if i = j then v else lookL l i
def look [e : EnvL] (i : Nat) : AV := lookL e.l i
def En (n : Nat) [e : EnvL] : List AV := (List.range n).map (lookL e.l)
theorem look_nil (i : Nat) : @look ⟨[]⟩ i = .undef := rfl
theorem look_cons (j : Nat) (v : AV) (l : List (Nat × AV)) (i : Nat) : @look ⟨(j, v) :: l⟩ i = if i = j then v else @look ⟨l⟩ i := rfl
theorem En_len (n : Nat) (e : EnvL) : (@En n e).length = n := by simp [En]
theorem En_at (n : Nat) (e : EnvL) (t : Nat) : (@En n e)[t]? = if t < n then some (@look e t) else none := by
 unfold En
 rw [List.getElem?_map]
 by_cases h : t < n
 ·rw [if_pos h, List.getElem?_range h]; rfl
 ·rw [if_neg h, List.getElem?_eq_none (by simpa using h)]; rfl
theorem En_getD (n : Nat) (e : EnvL) (t : Nat) : (@En n e).getD t .undef = if t < n then @look e t else .undef := by
 rw [List.getD_eq_getElem?_getD, En_at]
 split <;> rfl
theorem En_set (n : Nat) (l : List (Nat × AV)) (d : Nat) (v : AV) : (@En n ⟨l⟩).set d v = if d < n then @En n ⟨(d, v) :: l⟩ else @En n ⟨l⟩ := by
 refine List.ext_getElem? fun t => ?_
 by_cases h : d < n
 ·rw [if_pos h, List.getElem?_set, En_len, En_at, En_at, look_cons]
  by_cases e : d = t
  ·subst e; simp [h]
  ·have e' : ¬ t = d := fun q => e q.symm
   simp [e, e']
 ·rw [if_neg h, List.getElem?_set, En_len]
  by_cases e : d = t
  ·subst e; rw [En_at]; simp [h]
  ·simp [e]
/-- the places of the arguments -/
def enm : Nat → List AV → List (Nat × AV)
 | _, [] => []
 | i, x :: l => (i, x) :: enm (i + 1) l
theorem look_enm_nil (i t : Nat) : @look ⟨enm i []⟩ t = .undef := rfl
theorem look_enm_cons (i : Nat) (x : AV) (l : List AV) (t : Nat) : @look ⟨enm i (x :: l)⟩ t = if t = i then x else @look ⟨enm (i + 1) l⟩ t := rfl
/-- what is asked of the places, out of what they hold -/
def WsP : List (Nat × AV) → List (Nat × AV) → Prop
 | [], _ => True
 | (i, v) :: l, l2 => wkV v (@look ⟨l2⟩ i) ∧ WsP l l2
theorem WsP.at : ∀ {l1 l2 : List (Nat × AV)}, WsP l1 l2 → ∀ i, wkV (@look ⟨l1⟩ i) (@look ⟨l2⟩ i)
 | [], _, _, i => .inl rfl
 | (j, v) :: l, l2, h, i => by
  rw [look_cons]
  by_cases e : i = j
  ·rw [if_pos e, e]; exact h.1
  ·rw [if_neg e]; exact WsP.at h.2 i
theorem Wk.of_at : ∀ {l l' : List AV}, l.length = l'.length → (∀ (j : Nat) (v : AV), l[j]? = some v → ∃ v', l'[j]? = some v' ∧ wkV v v') → Wk l l'
 | [], [], _, _ => trivial
 | x :: l, y :: l', hl, h => by
  obtain ⟨v', q1, q2⟩ := h 0 x rfl
  simp only [List.getElem?_cons_zero] at q1
  cases q1
  exact ⟨q2, Wk.of_at (by simpa using hl) (fun j v hj => by
   obtain ⟨v', q1, q2⟩ := h (j + 1) v (by simpa using hj)
   exact ⟨v', by simpa using q1, q2⟩)⟩
 | [], _ :: _, hl, _ => by simp at hl
 | _ :: _, [], hl, _ => by simp at hl
theorem WsP.wk {l1 l2 : List (Nat × AV)} (h : WsP l1 l2) (n : Nat) : Wk (@En n ⟨l1⟩) (@En n ⟨l2⟩) := by
 refine Wk.of_at (by rw [En_len, En_len]) (fun j v hj => ?_)
 rw [En_at] at hj
 by_cases c : j < n
 ·rw [if_pos c] at hj
  cases hj
  exact ⟨@look ⟨l2⟩ j, by rw [En_at, if_pos c], h.at j⟩
 ·rw [if_neg c] at hj; cases hj
end Go.Av
end

section
set_option linter.unusedSimpArgs false
set_option linter.unusedVariables false
namespace Go.Av
open Go.RowKit
/-! ### several items as one -/
def Item.ids : Item → List Nat
 | .obj id _ => [id]
 | .tl (.tok t) => [t]
 | .tl _ => []
 | .own _ (.sl _ id _ _) _ => [id]
 | .own _ _ _ => []
 | .many ids _ _ _ => ids
theorem Item.has_iff (x : Item) (i : Nat) : x.has i ↔ i ∈ x.ids := by
 cases x with
 | obj id o => simp [Item.has, Item.ids]
 | tl t => cases t <;> simp [Item.has, Item.ids]
 | own sz v cs => cases v <;> simp [Item.has, Item.ids]
 | many ids p hp hl => exact Iff.rfl
def idsL (A : List Item) : List Nat := A.flatMap Item.ids
theorem mem_idsL {A : List Item} {i : Nat} : i ∈ idsL A ↔ ∃ x, x ∈ A ∧ x.has i := by
 simp only [idsL, List.mem_flatMap, Item.has_iff]
theorem Hv.keepL {H H' : AHeap} {A : List Item} (h : Hv H A) (hk : ∀ i, i ∈ idsL A → H'[i]? = H[i]?) : Hv H' A :=
 ⟨fun x hx => Item.keep (h.each x hx) fun i hi => hk i (mem_idsL.2 ⟨x, hx, hi⟩), h.ap⟩
theorem Hv.getL {H : AHeap} {A : List Item} (h : Hv H A) (i : Nat) (hi : i ∈ idsL A) : ∃ o, H[i]? = some o := by
 obtain ⟨x, hx, hxi⟩ := mem_idsL.1 hi
 exact Item.get (h.each x hx) hxi
/-- a bag: the items A, and what is known -/
def bagI (A : List Item) (q : Prop) : Item := .many (idsL A) (fun H => Hv H A ∧ q) (fun _ _ h hk => ⟨h.1.keepL hk, h.2⟩) (fun _ h i hi => h.1.getL i hi)
theorem Hv.appR {H : AHeap} {A L : List Item} (h : Hv H (A ++ L)) : Hv H L := ⟨fun x hx => h.each x (by simp [hx]), (List.pairwise_append.1 h.ap).2.1⟩
theorem Hv.appL {H : AHeap} {A L : List Item} (h : Hv H (A ++ L)) : Hv H A := ⟨fun x hx => h.each x (by simp [hx]), (List.pairwise_append.1 h.ap).1⟩
theorem Hv.opn {H : AHeap} {A L : List Item} {q : Prop} (h : Hv H (bagI A q :: L)) : q ∧ Hv H (A ++ L) := by
 have h1 : Hv H A ∧ q := h.each (bagI A q) (List.mem_cons_self ..)
 refine ⟨h1.2, ⟨fun x hx => ?_, List.pairwise_append.2 ⟨h1.1.ap, h.drop.ap, fun x hx y hy i h2 h3 => ?_⟩⟩⟩
 ·rcases List.mem_append.1 hx with hx | hx
  ·exact h1.1.each x hx
  ·exact h.each x (by simp [hx])
 ·exact (List.pairwise_cons.1 h.ap).1 y hy i (mem_idsL.2 ⟨x, hx, h2⟩) h3
theorem Hv.cls {H : AHeap} {A L : List Item} {q : Prop} (hq : q) (h : Hv H (A ++ L)) : Hv H (bagI A q :: L) := by
 refine ⟨fun x hx => ?_, List.pairwise_cons.2 ⟨fun y hy i h2 h3 => ?_, h.appR.ap⟩⟩
 ·rcases List.mem_cons.1 hx with rfl | hx
  ·exact ⟨h.appL, hq⟩
  ·exact h.each x (by simp [hx])
 ·obtain ⟨x, hx, hxi⟩ := mem_idsL.1 h2
  exact (List.pairwise_append.1 h.ap).2.2 x hx y hy i hxi h3

/-- a block of an item is set -/
theorem Hv.setS {H : AHeap} {L : List Item} {x y : Item} {i : Nat} (h : Hv H (x :: L)) (hx : x.has i) (o : AObj) (hy : y.at (H.set i o)) (hyi : ∀ j, y.has j → x.has j) : Hv (H.set i o) (y :: L) := by
 obtain ⟨h1, h2⟩ := h
 obtain ⟨h2, h3⟩ := List.pairwise_cons.1 h2
 refine ⟨fun z hz => ?_, List.pairwise_cons.2 ⟨fun z hz j hj hzj => h2 z hz j (hyi j hj) hzj, h3⟩⟩
 rcases List.mem_cons.1 hz with rfl | hz
 ·exact hy
 ·exact Item.keep (h1 z (by simp [hz])) fun j hj => get_set_ne _ (fun e => by subst e; exact h2 z hz i hx hj)

/-! ### maps -/
abbrev MA := List Int × AV
def mk3 (b : Nat) (e : MA) : ME := (b, e.1, e.2)
structure MOk (kk : KK) (bs : List Nat) (ms : List MA) (clock : Nat) : Prop where
 len : bs.length = ms.length
 nd : bs.Nodup
 lt : ∀ b, b ∈ bs → b < clock
 key : ∀ e, e ∈ ms → e.1.length = kk.len
def mpI (id : Nat) (kk : KK) (ms : List MA) : Item :=
 .many [id] (fun H => ∃ bs clock, H[id]? = some (.map (mraw kk (List.zipWith mk3 bs ms)) clock) ∧ MOk kk bs ms clock)
  (fun H H' ⟨bs, clock, h1, h2⟩ hk => ⟨bs, clock, (hk id (by simp)).trans h1, h2⟩) (fun H ⟨bs, clock, h1, _⟩ i hi => by simp at hi; subst hi; exact ⟨_, h1⟩)
/-- the value at a key -/
def lkA (ms : List MA) (L : List Int) : Option AV := (ms.find? (fun e => e.1 == L)).map (·.2)
/-- it is set -/
def putM (ms : List MA) (L : List Int) (v : AV) : List MA := match ms.findIdx? (fun e => e.1 == L) with
 | some j => ms.modify j fun e => (e.1, v)
 | none => ms ++ [(L, v)]
theorem zip_get {bs : List Nat} {ms : List MA} {i : Nat} {b : Nat} {L : List Int} {v : AV} : (List.zipWith mk3 bs ms)[i]? = some (b, L, v) ↔ bs[i]? = some b ∧ ms[i]? = some (L, v) := by
 rw [List.getElem?_zipWith]
 cases bs[i]? <;> cases ms[i]? <;> simp [mk3, Prod.ext_iff]
theorem MOk.mOk {kk : KK} {bs : List Nat} {ms : List MA} {clock : Nat} (h : MOk kk bs ms clock) : mOk kk (List.zipWith mk3 bs ms) := by
 rintro ⟨b, L, v⟩ he
 obtain ⟨i, hi⟩ := List.getElem?_of_mem he
 exact h.key _ (List.mem_of_getElem? (zip_get.1 hi).2)
theorem midx_zip : ∀ (bs : List Nat) (ms : List MA) (L : List Int), bs.length = ms.length → midx (List.zipWith mk3 bs ms) L = ms.findIdx? (fun e => e.1 == L)
 | [], [], L, _ => rfl
 | b :: bs, e :: ms, L, h => by
  have ih := midx_zip bs ms L (by simpa using h)
  unfold midx at ih ⊢
  rw [List.zipWith_cons_cons, List.findIdx?_cons, List.findIdx?_cons, ih]
  rfl
 | [], _ :: _, _, h => by simp at h
 | _ :: _, [], _, h => by simp at h
theorem find_idx {ms : List MA} {L : List Int} : lkA ms L = (ms.findIdx? (fun e => e.1 == L)).bind fun j => (ms[j]?).map (·.2) := by
 unfold lkA
 induction ms with
 | nil => rfl
 | cons e ms ih =>
  rw [List.find?_cons, List.findIdx?_cons]
  cases h : (e.1 == L) with
  | true => simp
  | false =>
   simp only [h, Bool.false_eq_true, if_false]
   rw [ih]
   cases ms.findIdx? (fun e => e.1 == L) <;> simp
theorem mval_zip {bs : List Nat} {ms : List MA} {L : List Int} (h : bs.length = ms.length) : mval (List.zipWith mk3 bs ms) L = lkA ms L := by
 unfold mval
 rw [midx_zip bs ms L h, find_idx]
 cases hf : ms.findIdx? (fun e => e.1 == L) with
 | none => rfl
 | some j =>
  simp only [Option.bind_some]
  have hj : j < ms.length := (List.findIdx?_eq_some_iff_getElem.1 hf).1
  rw [List.getElem?_zipWith, List.getElem?_eq_getElem hj, List.getElem?_eq_getElem (by omega : j < bs.length)]
  rfl
section
variable {P : Program} {B : Nat} {w0 : World} {H : AHeap} {K : AV → AHeap → Prop} {L L' : List Item} {t : TypeId} {kk : KK} {z v : AV} {id : Nat} {ms : List MA} {key : List Int}
theorem mpI_at (hp : Pull L (mpI id kk ms) L') (hS : Hv H L) : ∃ bs clock, H[id]? = some (.map (mraw kk (List.zipWith mk3 bs ms)) clock) ∧ MOk kk bs ms clock :=
 (hS.pull hp).each (mpI id kk ms) (List.mem_cons_self ..)
theorem look_mp {ok : Bool} (hT : MTy P t kk z) (hp : Pull L (mpI id kk ms) L') (hS : Hv H L) (hl : key.length = kk.len) (hK : K (okV ok ((lkA ms key).getD z) (lkA ms key).isSome) H) : MLook P t (.map (some id)) (kk.a key) ok H K := by
 obtain ⟨bs, clock, h1, h2⟩ := mpI_at hp hS
 refine ⟨kk, z, key, hT, hl, rfl, .inr ⟨id, _, clock, rfl, h1, h2.mOk, ?_⟩⟩
 rw [mval_zip h2.len]; exact hK
theorem mpI_set {H : AHeap} {L : List Item} {x : Item} (hS : Hv H (x :: L)) (hx : x.has id) {o : AObj} {ms' : List MA} {bs' : List Nat} {clock' : Nat} (ho : o = .map (mraw kk (List.zipWith mk3 bs' ms')) clock') (hok : MOk kk bs' ms' clock') : Hv (H.set id o) (mpI id kk ms' :: L) := by
 obtain ⟨o0, h0⟩ := Item.get (hS.each x (List.mem_cons_self ..)) hx
 refine hS.set hx o ?_ (fun j hj => by simpa [mpI, Item.has] using hj)
 exact ⟨bs', clock', by rw [ho]; exact get_set_self _ h0, hok⟩
theorem upd_mp (hT : MTy P t kk z) (hp : Pull L (mpI id kk ms) L') (hS : Hv H L) (hl : key.length = kk.len) (hK : ∀ H', Hv H' (mpI id kk (putM ms key v) :: L') → K .undef H') : MUpd P t (.map (some id)) (kk.a key) v H K := by
 obtain ⟨bs, clock, h1, h2⟩ := mpI_at hp hS
 refine ⟨kk, z, key, id, _, clock, hT, hl, rfl, rfl, h1, h2.mOk, hK _ ?_⟩
 have hx : (mpI id kk ms).has id := by simp [mpI, Item.has]
 unfold mput putM
 rw [midx_zip bs ms key h2.len]
 cases hf : ms.findIdx? (fun e => e.1 == key) with
 | none =>
  refine mpI_set (bs' := bs ++ [clock]) (clock' := clock + 1) (hS.pull hp) hx ?_ ⟨by simp [h2.len], ?_, ?_, ?_⟩
  ·rw [List.zipWith_append h2.len]; rfl
  ·rw [List.nodup_append]
   exact ⟨h2.nd, by simp, fun a ha b hb => by simp at hb; subst hb; exact Nat.ne_of_lt (h2.lt a ha)⟩
  ·intro b hb
   rcases List.mem_append.1 hb with hb | hb
   ·exact Nat.lt_succ_of_lt (h2.lt b hb)
   ·simp at hb; omega
  ·intro e he
   rcases List.mem_append.1 he with he | he
   ·exact h2.key e he
   ·simp at he; subst he; exact hl
 | some j =>
  refine mpI_set (bs' := bs) (clock' := clock) (hS.pull hp) hx ?_ ⟨by simp [h2.len], h2.nd, h2.lt, ?_⟩
  ·simp only
   congr 2
   refine List.ext_getElem? fun i => ?_
   rw [List.getElem?_modify, List.getElem?_zipWith, List.getElem?_zipWith, List.getElem?_modify]
   by_cases hij : j = i
   ·subst hij
    cases bs[j]? <;> cases ms[j]? <;> simp [mk3]
   ·cases bs[i]? <;> cases ms[i]? <;> simp [mk3, hij]
  ·intro e he
   obtain ⟨i, hi⟩ := List.getElem?_of_mem he
   rw [List.getElem?_modify] at hi
   obtain ⟨e0, q1, q2⟩ := Option.map_eq_some_iff.1 hi
   have := h2.key e0 (List.mem_of_getElem? q1)
   split at q2 <;> (subst q2; exact this)
theorem make_mp (kk : KK) (hS : Hv H L) (hK : ∀ (id : Nat) (H' : AHeap), Hv H' (mpI id kk [] :: L) → K (.map (some id)) H') : MMake H K := by
 refine hK H.length _ (hS.push (.map [] 0) ?_ (fun i hi => by simpa [mpI, Item.has] using hi))
 exact ⟨[], 0, get_new H _, ⟨rfl, by simp, fun _ h => by simp at h, fun _ h => by simp at h⟩⟩
theorem len_mp {ti : TyA} {ke e : TypeId} (h1 : tyA P t = some ti) (h2 : ti.kind = .map ke e) (hp : Pull L (mpI id kk ms) L') (hS : Hv H L) (hK : K (.int .i64 (ms.length : Int)) H) : someK (lenA P H t (.map (some id))) K H := by
 obtain ⟨bs, clock, h3, h4⟩ := mpI_at hp hS
 refine ⟨_, ?_, hK⟩
 simp [lenA, h1, h2, h3, mraw, h4.len]
/-- a map that is ranged over; the places that have come -/
def rgI (id it : Nat) (kk : KK) (ms : List MA) (seen : List Nat) : Item :=
 .many [id, it] (fun H => id ≠ it ∧ ∃ bs clock, H[id]? = some (.map (mraw kk (List.zipWith mk3 bs ms)) clock) ∧ MOk kk bs ms clock ∧ H[it]? = some (.iter id clock (seen.map fun i => bs.getD i 0) clock) ∧ ∀ i, i ∈ seen → i < ms.length)
  (fun H H' ⟨h0, bs, clock, h1, h2, h3, h4⟩ hk => ⟨h0, bs, clock, (hk id (by simp)).trans h1, h2, (hk it (by simp)).trans h3, h4⟩)
  (fun H ⟨_, bs, clock, h1, _, h3, _⟩ i hi => by simp at hi; rcases hi with rfl | rfl; exact ⟨_, h1⟩; exact ⟨_, h3⟩)
theorem ran_mp {ke e : TypeId} (hu : P.underlying t = some (.map ke e)) (hp : Pull L (mpI id kk ms) L') (hS : Hv H L) (hK : ∀ (it : Nat) (H' : AHeap), Hv H' (rgI id it kk ms [] :: L') → K (.ptr it 0) H') : MRan P t (.map (some id)) H K := by
 obtain ⟨bs, clock, h1, h2⟩ := mpI_at hp hS
 refine ⟨⟨ke, e, hu⟩, id, _, clock, rfl, h1, hK H.length _ ?_⟩
 have hs := hS.pull hp
 have hlt : id < H.length := (List.getElem?_eq_some_iff.1 h1).1
 refine ⟨fun x hx => ?_, List.pairwise_cons.2 ⟨fun y hy i hi hyi => ?_, hs.drop.ap⟩⟩
 ·rcases List.mem_cons.1 hx with rfl | hx
  ·exact ⟨Nat.ne_of_lt hlt, bs, clock, by rw [List.getElem?_append_left hlt]; exact h1, h2, get_new H _, fun i hi => by simp at hi⟩
  ·exact Item.keep (hs.each x (by simp [hx])) fun i hi => List.getElem?_append_left (Item.lt (hs.each x (by simp [hx])) hi)
 ·simp only [rgI, Item.has, List.mem_cons, List.not_mem_nil, or_false] at hi
  rcases hi with rfl | rfl
  ·exact (List.pairwise_cons.1 hs.ap).1 y hy i (by simp [mpI, Item.has]) hyi
  ·exact absurd (Item.lt (hs.each y (by simp [hy])) hyi) (by omega)
theorem nodup_getD {bs : List Nat} (h : bs.Nodup) {i j : Nat} (hi : i < bs.length) (hj : j < bs.length) (e : bs.getD i 0 = bs.getD j 0) : i = j := by
 rw [List.getD_eq_getElem?_getD, List.getD_eq_getElem?_getD, List.getElem?_eq_getElem hi, List.getElem?_eq_getElem hj] at e
 exact (List.getElem_inj h).1 e
theorem nxt_rg {it : Nat} {seen : List Nat} (hp : Pull L (rgI id it kk ms seen) L') (hS : Hv H L)
  (h1 : ∀ (i : Nat) (hi : i < ms.length), i ∉ seen → ∀ H', Hv H' (rgI id it kk ms (seen ++ [i]) :: L') → K (.tup [.bool true, kk.a ms[i].1, ms[i].2]) H')
  (h2 : (∀ i, i < ms.length → i ∈ seen) → Hv H (mpI id kk ms :: L') → K (.tup [.bool false]) H) : MNxt (.ptr it 0) H K := by
 have hs := hS.pull hp
 obtain ⟨hne, bs, clock, k1, k2, k3, k4⟩ := hs.each (rgI id it kk ms seen) (List.mem_cons_self ..)
 refine ⟨it, id, _, kk, clock, _, rfl, k3, k1, k2.mOk, ?_, ?_, ?_⟩
 ·rintro ⟨b, Lk, v⟩ he
  obtain ⟨i, hi⟩ := List.getElem?_of_mem he
  exact k2.lt b (List.mem_of_getElem? (zip_get.1 hi).1)
 ·rintro ⟨b, Lk, v⟩ he hns
  obtain ⟨i, hi⟩ := List.getElem?_of_mem he
  obtain ⟨q1, q2⟩ := zip_get.1 hi
  obtain ⟨hil, hiv⟩ := List.getElem?_eq_some_iff.1 q2
  have hb : bs.getD i 0 = b := by rw [List.getD_eq_getElem?_getD, q1]; rfl
  have hnot : i ∉ seen := fun h => hns (List.mem_map.2 ⟨i, h, hb⟩)
  have := h1 i hil hnot (H.set it (.iter id clock (seen.map (fun i => bs.getD i 0) ++ [b]) clock)) ?_
  ·rw [hiv] at this; exact this
  ·refine hs.setS (x := rgI id it kk ms seen) (i := it) (by simp [rgI, Item.has]) _ ?_ (fun j hj => hj)
   ·refine ⟨hne, bs, clock, (get_set_ne _ (fun e => hne e.symm)).trans k1, k2, ?_, ?_⟩
    ·rw [get_set_self _ k3, List.map_append, List.map_cons, List.map_nil, hb]
    ·intro j hj
     rcases List.mem_append.1 hj with hj | hj
     ·exact k4 j hj
     ·simp at hj; omega
 ·intro hall
  refine h2 (fun i hi => ?_) ?_
  ·have hib : i < bs.length := by rw [k2.len]; exact hi
   have := hall (bs[i], ms[i].1, ms[i].2) (List.mem_of_getElem? (i := i) (zip_get.2 ⟨List.getElem?_eq_getElem hib, List.getElem?_eq_getElem hi⟩))
   obtain ⟨j, hj, hje⟩ := List.mem_map.1 this
   have hjl := k4 j hj
   have : j = i := nodup_getD k2.nd (by rw [k2.len]; exact hjl) hib (by rw [hje, List.getD_eq_getElem?_getD, List.getElem?_eq_getElem hib]; rfl)
   rw [← this]; exact hj
  ·exact hs.as (y := mpI id kk ms) ⟨bs, clock, k1, k2⟩ (fun i hi => by simp [mpI, rgI, Item.has] at hi ⊢; exact .inl hi)
theorem cur_rg {it i : Nat} {seen : List Nat} (hp : Pull L (rgI id it kk ms (seen ++ [i])) L') (hS : Hv H L) (hi : i < ms.length) (hK : K (.tup [kk.a ms[i].1, ms[i].2]) H) : MCur (.ptr it 0) H K := by
 obtain ⟨hne, bs, clock, k1, k2, k3, k4⟩ := (hS.pull hp).each (rgI id it kk ms (seen ++ [i])) (List.mem_cons_self ..)
 have hib : i < bs.length := by rw [k2.len]; exact hi
 have hb : bs.getD i 0 = bs[i] := by rw [List.getD_eq_getElem?_getD, List.getElem?_eq_getElem hib]; rfl
 refine ⟨it, id, _, kk, clock, clock, _, bs[i], ms[i].1, ms[i].2, rfl, k3, ?_, k1, k2.mOk, ?_, hK⟩
 ·rw [List.map_append, List.getLast?_append]
  simp only [List.map_cons, List.map_nil, hb, List.getLast?_singleton, Option.or_some, Option.getD_some, Option.some_or]
 ·rw [List.find?_eq_some_iff_append]
  refine ⟨by simp, (List.zipWith mk3 bs ms).take i, (List.zipWith mk3 bs ms).drop (i + 1), ?_, ?_⟩
  ·have hl : i < (List.zipWith mk3 bs ms).length := by rw [List.length_zipWith]; omega
   have hg : (List.zipWith mk3 bs ms)[i] = (bs[i], ms[i].1, ms[i].2) := by simp [mk3]
   rw [← hg, ← List.drop_eq_getElem_cons hl, List.take_append_drop]
  ·rintro ⟨b, Lk, v⟩ he
   obtain ⟨j, hj⟩ := List.getElem?_of_mem he
   have hjl : j < i := by have := (List.getElem?_eq_some_iff.1 hj).1; simp at this; omega
   rw [List.getElem?_take_of_lt hjl] at hj
   have q1 := (zip_get.1 hj).1
   obtain ⟨hjb, hjv⟩ := List.getElem?_eq_some_iff.1 q1
   simp only [Bool.not_eq_true', beq_eq_false_iff_ne, ne_eq]
   intro e
   have : j = i := (List.getElem_inj k2.nd).1 (hjv.trans e)
   omega
end

/-! ### parts of slices, by what is cut -/
def sliceT (o : Option TyA) (s : List UInt8) (lo hi mx : Option AV) : Option AV := match o with
 | some ti => match ti.kind with
  | .str => match bnd 0 lo, bnd s.length hi with
   | some l, some h => if l ≤ h ∧ h ≤ s.length ∧ mx.isNone = true then some (.str ((s.take h).drop l)) else none
   | _, _ => none
  | _ => none
 | none => none
theorem sliceA_str (P : Program) (t : TypeId) (s : List UInt8) (lo hi mx : Option AV) : sliceA P t (.str s) lo hi mx = sliceT (tyA P t) s lo hi mx := by
 unfold sliceA sliceT; cases tyA P t with
 | none => rfl
 | some ti => simp only; cases ti.kind <;> rfl
def sliceD (P : Program) (o : Option TyA) (sz : Nat) (es : List AV) (tl : Tail) (lo hi mx : Option AV) : Option AV := match o with
 | some ti => match ti.kind with
  | .slice e => match tyA P e with
   | some te => match bnd 0 lo, bnd es.length hi with
    | some l, some h => match mx with
     | none => if l ≤ h ∧ h ≤ es.length ∧ (sz = te.size ∨ es.length = 0) then some (.dl sz ((es.take h).drop l) (cutTail l h es.length none tl)) else none
     | some m' => match bnd 0 (some m') with
      | some m => if l ≤ h ∧ h ≤ m ∧ m ≤ es.length ∧ hi.isSome = true ∧ (sz = te.size ∨ es.length = 0) then some (.dl sz ((es.take h).drop l) (cutTail l h es.length (some m) tl)) else none
      | none => none
    | _, _ => none
   | none => none
  | _ => none
 | none => none
theorem sliceA_dl (P : Program) (t : TypeId) (sz : Nat) (es : List AV) (tl : Tail) (lo hi mx : Option AV) : sliceA P t (.dl sz es tl) lo hi mx = sliceD P (tyA P t) sz es tl lo hi mx := by
 unfold sliceA sliceD; cases tyA P t with
 | none => rfl
 | some ti => simp only; cases ti.kind <;> rfl
def sliceS (P : Program) (o : Option TyA) (sz id off len : Nat) (lo hi mx : Option AV) : Option AV := match o with
 | some ti => match ti.kind with
  | .slice e => match tyA P e with
   | some te => match bnd 0 lo, bnd len hi with
    | some l, some h => if l ≤ h ∧ h ≤ len ∧ sz = te.size ∧ mx.isNone = true then (if l = h ∧ l ≠ 0 then some (.dl sz [] .none) else some (.sl sz id (off + l * sz) (h - l))) else none
    | _, _ => none
   | none => none
  | _ => none
 | none => none
theorem sliceA_sl (P : Program) (t : TypeId) (sz id off len : Nat) (lo hi mx : Option AV) : sliceA P t (.sl sz id off len) lo hi mx = sliceS P (tyA P t) sz id off len lo hi mx := by
 unfold sliceA sliceS; cases tyA P t with
 | none => rfl
 | some ti => simp only; cases ti.kind <;> rfl
section
variable {P : Program} {H : AHeap} {L L' : List Item} {t : TypeId} {sz : Nat} {v : AV} {α : Type} {enc : α → AV} {l : List α}
theorem lenEq {ti : TyA} {e : TypeId} (ht : tyA P t = some ti) (hk : ti.kind = .slice e) (hc : SzC sz enc) (h0 : 0 < sz) (hp : Pull L (.own sz v (flat (List.map enc l))) L') (hS : Hv H L) : lenA P H t v = some (.int .i64 (l.length : Int)) := by
 obtain ⟨w, h1, h2⟩ := len_own (K := fun w _ => w = .int .i64 (l.length : Int)) ht hk hc h0 hp hS rfl
 rw [h1, h2]
theorem lenEq1 {ti : TyA} {e : TypeId} (ht : tyA P t = some ti) (hk : ti.kind = .slice e) (hc : OneC enc) (hp : Pull L (.own 1 v (List.map enc l)) L') (hS : Hv H L) : lenA P H t v = some (.int .i64 (l.length : Int)) :=
 lenEq ht hk hc.toSz (by decide) (by rw [flat_one enc hc]; exact hp) hS
theorem lenEqV {ti : TyA} {e : TypeId} {id len : Nat} (ht : tyA P t = some ti) (hk : ti.kind = .slice e) (hv : v = .sl sz id 0 len) : lenA P H t v = some (.int .i64 (len : Int)) := by
 subst hv; simp [lenA, ht, hk]
end
theorem ifT {ρ : Type} {c : Prop} {d : Decidable c} {x y : Option ρ} {r : ρ} (h : (@ite _ c d x y) = some r) (hc : c) : x = some r := by rwa [if_pos hc] at h
theorem ifF {ρ : Type} {c : Prop} {d : Decidable c} {x y : Option ρ} {r : ρ} (h : (@ite _ c d x y) = some r) (hc : ¬ c) : y = some r := by rwa [if_neg hc] at h
end Go.Av
end

section
set_option linter.unusedSimpArgs false
set_option linter.unusedVariables false
namespace Go.Av
open Go.RowKit
/-! an element of an array that lies at an address -/
end Go.Av
end
