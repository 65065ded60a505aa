/- the layer over the model, part 14 -/
import Derived.Test.YtcgndadlcgnilaaGreatA13
set_option autoImplicit false
set_option linter.unusedSimpArgs false
set_option linter.unusedVariables false
set_option linter.unnecessarySimpa false
section
set_option linter.unusedSimpArgs false
set_option linter.unusedVariables false
namespace Go.Av
open Go.RowKit

/-- append to nothing: a block of one's own. -/
def AppM (P : Program) (t t2 : TypeId) (x y : AV) (H : AHeap) (K : AV → AHeap → Prop) : Prop :=
 ∃ ti e te z ys sz, tyA P t = some ti ∧ ti.kind = .slice e ∧ tyA P e = some te ∧ te.zero = some z ∧ z.cells.length = te.size ∧ 0 < te.size ∧ srcA P te.size t2 y = some ys ∧ x = .dl sz [] .full ∧
  ys ≠ [] ∧ ys.length * te.bytes ≤ 140737488355328 ∧ ys.length ≤ 4611686018427387904 ∧ K (.sl te.size H.length 0 ys.length) (H ++ [.cells (flat ys)])

/-- append of as many zeros to nothing: a block of one's own. -/
def AppC (P : Program) (t t2 : TypeId) (x y : AV) (H : AHeap) (K : AV → AHeap → Prop) : Prop :=
 ∃ ti e te z i2 k k2 m sz, tyA P t = some ti ∧ ti.kind = .slice e ∧ tyA P e = some te ∧ te.zero = some z ∧ z.cells.length = te.size ∧ z.cells.all AV.one = true ∧ 0 < te.size ∧ tyA P t2 = some i2 ∧ i2.kind = .int k ∧ x = .dl sz [] .full ∧ y = .int k2 ((m : Nat) : Int) ∧
  0 < m ∧ m * te.bytes ≤ 140737488355328 ∧ m ≤ 4611686018427387904 ∧ K (.sl te.size H.length 0 m) (H ++ [.cells (flat (List.replicate m z))])

/-- Is a slice nil? -/
def NilQ (ne : Bool) (v : AV) (H : AHeap) (K : AV → AHeap → Prop) : Prop :=
 match v with
 | .dl _ es _ => (es = [] → ∀ b, K (.bool b) H) ∧ (es ≠ [] → K (.bool ne) H)
 | .sl _ _ _ _ => K (.bool ne) H
 | _ => False

def isNe : BinOp → Option Bool
 | .eql => some false
 | .neq => some true
 | _ => none

/-- clear. -/
def Clr (P : Program) (t : TypeId) (x : AV) (H : AHeap) (K : AV → AHeap → Prop) : Prop :=
 ∃ ti e te z, tyA P t = some ti ∧ ti.kind = .slice e ∧ tyA P e = some te ∧ te.zero = some z ∧ z.cells.length = te.size ∧ z.cells.all AV.one = true ∧ 0 < te.size ∧
  ((∃ sz tl, x = .dl sz [] tl ∧ K (.tup []) H) ∨ (∃ id off len cs, x = .sl te.size id off len ∧ H[id]? = some (.cells cs) ∧ off + len * te.size ≤ cs.length ∧ K (.tup []) (H.set id (.cells (putA cs off (flat (List.replicate len z)))))))

section
variable {P : Program} {B : Nat} {w0 : World} {a : List AV} {H : AHeap} {μ μ' : Nat → Nat × Nat} {Z Z' : Nat → Nat → Prop} {w w' : World} {n n' : Nat}
variable {x y i v : AV} {cx cy ci : Value} {t t2 ty e : TypeId}

theorem appM_sound (K : AV → AHeap → Prop) (h : AppM P t t2 x y H K) (hR : R B w0 μ Z H w) (hx : VR μ Z w H.length x cx) (hy : VR μ Z w H.length y cy) :
  ∃ cv w' v μ' Z' H', (Builtin.append_ #[t, t2] ty #[cx, cy]).run P w = .ok cv w' ∧ R B w0 μ' Z' H' w' ∧ VR μ' Z' w' H'.length v cv ∧ Ev μ Z H w μ' Z' H' w' ∧ K v H' := by
 obtain ⟨ti, e, te, z, ys, sz, h1, h2, h3, h4, h5, h6, h7, rfl, hm, h8, h9, h10⟩ := h
 have hu := kind_slice h1 h2
 obtain ⟨news, hsrc, hnl, hys, hnv⟩ := src_run h7 hR hy
 have hm0 : 0 < ys.length := List.length_pos_iff.2 hm
 obtain ⟨inf, zv, k1, k2, k3, _⟩ := zero_some (w := w) h3 h4
 have hzsz : zv.cells.size = te.size := by rw [← h5, k3, ofVal_cells]
 have hbytes : inf.bytes = te.bytes := by
  obtain ⟨inf', d, q1, _, _, _, q2, _⟩ := tyA_spec h3
  rw [k1] at q1; cases q1; exact q2.symm
 obtain ⟨A, rfl⟩ : ∃ A, cx = .slice A 0 0 := by
  generalize hL : ([] : List AV) = L at hx
  cases hx with
  | dl0 _ _ A cap q1 q2 => exact ⟨A, by rw [q1 rfl]⟩
  | dl _ _ _ c o cap f hs hc q1 q2 q3 q5 ht =>
   subst hL
   have : cap = 0 := ht
   subst this
   exact ⟨_, rfl⟩
 have hrun := run_app_grow (P := P) (w := w) (cy := cy) (t := t) (t2 := t2) (ty := ty) (A := A) (sL := 0) (sC := 0) (olds := []) hu h3 k1 k2 hsrc (by cases A <;> simp [Builtin.firstCells, loadCells, loadCellsFrom]) (by omega) (by omega) (by rw [hbytes, Nat.zero_add]; exact h8)
 rw [Nat.zero_add, show (([] : List Value).toArray ++ news.toArray) = news.toArray from by simp] at hrun
 have hcapg := grownCap_ge w ys.length 0 e
 have hfy := flat_length hys
 have hnews : news.length = ys.length * te.size := by omega
 generalize hzs : Builtin.zeroCells zv.cells (grownCap w ys.length 0 e - ys.length) = zs at hrun
 have hzsl : zs.size = (grownCap w ys.length 0 e - ys.length) * te.size := by rw [← hzs, zeroCells_size, hzsz]
 have hnew : (w.drew.alloc (.cells (news.toArray ++ zs) e)).heap[w.drew.heap.size]? = some (.cells (news.toArray ++ zs) e (0, 0)) := heap_alloc_new w.drew _
 have hpush := (hR.drew).push (.cells (flat ys)) (.cells (news.toArray ++ zs) e) rfl (by
  intro μ'' hm' he
  refine ⟨by rw [he]; exact hR.hB, by rw [he]; exact fun o ho => by have := hR.drew.zlt _ _ ho; simp only at this; omega, _, e, (0, 0), by rw [he]; exact hnew, ?_, by rw [he]; simp; omega, ?_⟩
  ·intro o _
   rw [he]
   simp only [World.frozen?, hnew]
   simp
  ·intro j v hj
   rw [he]
   obtain ⟨v', q1, q2, q3⟩ := hnv j v hj
   have hjl := (List.getElem?_eq_some_iff.1 q1).1
   refine ⟨v', by rw [Nat.zero_add, Array.getElem?_append_left (by simpa using hjl)]; simpa using q1, q2, ?_⟩
   exact q3.mono (Nat.le_succ _) hm' (fun _ _ h => h) (fun c o hz => cell_alloc w.drew _ c o (hR.drew.zlt c o hz)) (fun c hc => shape_alloc w.drew _ c hc))
 refine ⟨_, _, .sl te.size H.length 0 ys.length, _, _, _, hrun, ?_, ?_, (Ev.drew (μ := μ) (Z := Z) (H := H) (w := w)).trans hpush.2, h10⟩
 ·have := hpush.1
  simpa using this
 ·rw [List.length_append]
  have hsl := VR.sl (μ := ext μ H.length (w.drew.heap.size, 0)) (Z := Z) (w := w.drew.alloc (.cells (news.toArray ++ zs) e)) (n := H.length + 1) te.size H.length 0 ys.length (grownCap w ys.length 0 e) (by omega) hcapg h6 e (news.toArray ++ zs).size
   (by rw [ext_eq]; simp only [World.shape?, hnew]) (by
    rw [ext_eq]
    simp only [Array.size_append, List.size_toArray, hzsl, hnews, ← Nat.add_mul]
    have : ys.length + (grownCap w ys.length 0 e - ys.length) = grownCap w ys.length 0 e := by omega
    rw [this]; omega)
  rw [ext_eq] at hsl
  simpa using hsl

theorem eq_slice_none (e : TypeId) (hu : P.underlying t = some (.slice e)) (A : Option Addr) (l c : Nat) : (Op.equal t (.slice A l c) (.slice none 0 0)).run P w = .ok A.isNone w := by
 show (Op.equalIn (9999 + 1) t (.slice A l c) (.slice none 0 0)).run P w = _
 rw [Op.equalIn]
 cases A <;> simp [run_und hu]

theorem nil_sound {op : BinOp} {ne : Bool} (K : AV → AHeap → Prop) {ti : TyA} (h1 : tyA P t = some ti) (h2 : ti.kind = .slice e) (hop : isNe op = some ne) (h : NilQ ne x H K) (hx : VR μ Z w H.length x cx) : ∃ b, (binOp op t cx (.slice none 0 0)).run P w = .ok (.bool b) w ∧ K (.bool b) H ∧ ∃ A l c, cx = .slice A l c := by
 have hu := kind_slice h1 h2
 have key : ∀ A l c, (binOp op t (.slice A l c) (.slice none 0 0)).run P w = .ok (.bool (if ne then !A.isNone else A.isNone)) w := by
  intro A l c
  cases op <;> simp only [isNe, Option.some.injEq, reduceCtorEq] at hop <;> subst hop <;> simp [binOp, eq_slice_none e hu]
 unfold NilQ at h
 split at h
 ·rename_i sz es tl
  generalize hL : es = L at hx
  cases hx with
  | dl0 _ _ A cap q1 q2 =>
   subst hL
   exact ⟨_, key A 0 cap, h.1 rfl _, A, 0, cap, rfl⟩
  | dl _ _ _ c o cap f =>
   subst hL
   by_cases he : es = []
   ·exact ⟨_, key _ _ _, h.1 he _, _, _, _, rfl⟩
   ·refine ⟨_, key _ _ _, ?_, _, _, _, rfl⟩
    cases ne <;> exact h.2 he
 ·cases hx with
  | sl => refine ⟨_, key _ _ _, ?_, _, _, _, rfl⟩; cases ne <;> exact h
 ·exact h.elim

theorem clr_sound (K : AV → AHeap → Prop) (h : Clr P t x H K) (hR : R B w0 μ Z H w) (hx : VR μ Z w H.length x cx) :
  ∃ cv w' v H', (Builtin.clear_ #[t] ty #[cx]).run P w = .ok cv w' ∧ R B w0 μ Z H' w' ∧ VR μ Z w' H'.length v cv ∧ Ev μ Z H w μ Z H' w' ∧ K v H' := by
 obtain ⟨ti, e, te, z, h1, h2, h3, h4, h5, h5', h6, h⟩ := h
 have hu := kind_slice h1 h2
 have htup : ∀ {μ : Nat → Nat × Nat} {Z : Nat → Nat → Prop} {w : World} {n : Nat}, VR μ Z w n (.tup []) (.tuple #[]) := .tup [] #[] rfl (fun _ => default) (fun j v hj => by simp at hj) (fun j v hj => by simp at hj)
 rcases h with ⟨sz, tl, rfl, hk⟩ | ⟨id, off, len, cs, rfl, hid, hlen, hk⟩
 ·obtain ⟨A, c, rfl⟩ : ∃ A c, cx = .slice A 0 c := by
   generalize hL : ([] : List AV) = L at hx
   cases hx with
   | dl0 => exact ⟨_, _, rfl⟩
   | dl => subst hL; exact ⟨_, _, rfl⟩
  refine ⟨.tuple #[], w, .tup [], H, ?_, hR, htup, Ev.refl μ Z H w, hk⟩
  cases A <;> simp [Builtin.clear_, run_und hu]
 ·obtain ⟨inf, zv, k1, k2, k3, k4⟩ := zero_some (w := w) h3 h4
  have hzs : ∀ e', e' ∈ List.replicate len z → e'.cells.length = te.size := fun e' he => by rw [List.eq_of_mem_replicate he]; exact h5
  have hfl := flat_length hzs
  rw [List.length_replicate] at hfl
  have hzsz : zv.cells.size = te.size := by rw [← h5, k3, ofVal_cells]
  have hzv : VRs μ Z w H.length z.cells zv.cells := by
   subst k3
   have hv : VR μ Z w H.length (ofVal zv) zv := VR.ofVal zv
   refine hv.cells ?_
   rintro hc
   rw [hc] at h5'
   simp [AV.cells, AV.one] at h5'
  have hcl : ∀ (j : Nat) (v : AV), (flat (List.replicate len z))[j]? = some v → ∃ v', (Builtin.zeroCells zv.cells len).toList[j]? = some v' ∧ VR μ Z w H.length v v' := by
   intro j v hj
   have hlt : j < len * te.size := by rw [← hfl]; exact (List.getElem?_eq_some_iff.1 hj).1
   have hdiv : j / te.size < len := (Nat.div_lt_iff_lt_mul h6).2 hlt
   have hmod : j % te.size < te.size := Nat.mod_lt _ h6
   have e1 : j = j / te.size * te.size + j % te.size := by rw [Nat.mul_comm]; exact (Nat.div_add_mod j te.size).symm
   rw [e1, flat_get hzs (by simpa using hdiv) hmod] at hj
   have e2 : (List.replicate len z).getD (j / te.size) .undef = z := by simp [List.getD, hdiv]
   rw [e2] at hj
   obtain ⟨u, q1, q2⟩ := hzv.2 _ _ hj
   refine ⟨u, ?_, q2⟩
   have hm : j % te.size < zv.cells.size := by omega
   simp only [Builtin.zeroCells, hzsz]
   simp only [Array.toList_map, Array.toList_range, List.getElem?_map, List.getElem?_range, hlt, if_true, Option.map_some]
   rw [← q1, Array.getElem?_eq_getElem hm]
   congr 1
   exact getElem!_pos zv.cells _ hm
  have hone : (flat (List.replicate len z)).all AV.one = true := by
   refine List.all_eq_true.2 fun x hx => ?_
   simp only [flat, List.mem_flatMap] at hx
   obtain ⟨y, hy1, hy2⟩ := hx
   rw [List.eq_of_mem_replicate hy1] at hy2
   exact List.all_eq_true.1 h5' x hy2
  obtain ⟨g1, g2, g3⟩ := store_cells (P := P) hR hid (off := off) (vs := flat (List.replicate len z)) (cvs := (Builtin.zeroCells zv.cells len).toList) (by rw [hfl]; simp [zeroCells_size, hzsz]) (by omega) hcl hone
  cases hx with
  | sl _ _ _ _ cap hl hc hsz e' N hN hcap =>
   refine ⟨.tuple #[], _, .tup [], _, ?_, g2, htup, g3, hk⟩
   cases len with
   | zero =>
    have hz0 : (Builtin.zeroCells zv.cells 0).toList = [] := by simp [Builtin.zeroCells]
    rw [hz0]
    simp [Builtin.clear_, run_und hu, World.setCells]
   | succ m => simp [Builtin.clear_, run_und hu, k4, g1]
end
end Go.Av
end
