/- the layer over the model, part 4 -/
import Derived.Test.YtahhhfgmcdajhaaA3
set_option autoImplicit false
set_option linter.unusedSimpArgs false
set_option linter.unusedVariables false
set_option linter.unnecessarySimpa false
section
set_option linter.unusedSimpArgs false
set_option linter.unusedVariables false
namespace Go.Av
open Go.RowKit

/-- append to nothing: a block of one's own. -/
def AppM (P : Program) (t t2 : TypeId) (x y : AV) (H : AHeap) (K : AV → AHeap → Prop) : Prop :=
 ∃ ti e te z ys sz, tyA P t = some ti ∧ ti.kind = .slice e ∧ tyA P e = some te ∧ te.zero = some z ∧ z.cells.length = te.size ∧ 0 < te.size ∧ SrcP P H te.size t2 y ys ∧ x = .dl sz [] .full ∧
  ys ≠ [] ∧ ys.length * te.bytes ≤ 140737488355328 ∧ ys.length ≤ 4611686018427387904 ∧ K (.sl te.size H.length 0 ys.length) (H ++ [.cells (flat ys)])

/-- append of as many zeros to nothing: a block of one's own. -/
def AppC (P : Program) (t t2 : TypeId) (x y : AV) (H : AHeap) (K : AV → AHeap → Prop) : Prop :=
 ∃ ti e te z i2 k k2 m sz, tyA P t = some ti ∧ ti.kind = .slice e ∧ tyA P e = some te ∧ te.zero = some z ∧ z.cells.length = te.size ∧ z.cells.all AV.one = true ∧ 0 < te.size ∧ tyA P t2 = some i2 ∧ i2.kind = .int k ∧ x = .dl sz [] .full ∧ y = .int k2 ((m : Nat) : Int) ∧
  0 < m ∧ m * te.bytes ≤ 140737488355328 ∧ m ≤ 4611686018427387904 ∧ K (.sl te.size H.length 0 m) (H ++ [.cells (flat (List.replicate m z))])

/-- Is a slice nil? -/
def NilQ (ne : Bool) (v : AV) (H : AHeap) (K : AV → AHeap → Prop) : Prop :=
 match v with
 | .dl _ es _ => (es = [] → ∀ b, K (.bool b) H) ∧ (es ≠ [] → K (.bool ne) H)
 | .sl _ _ _ _ => K (.bool ne) H
 | _ => False

def isNe : BinOp → Option Bool
 | .eql => some false
 | .neq => some true
 | _ => none

/-- clear. -/
def Clr (P : Program) (t : TypeId) (x : AV) (H : AHeap) (K : AV → AHeap → Prop) : Prop :=
 ∃ ti e te z, tyA P t = some ti ∧ ti.kind = .slice e ∧ tyA P e = some te ∧ te.zero = some z ∧ z.cells.length = te.size ∧ z.cells.all AV.one = true ∧ 0 < te.size ∧
  ((∃ sz tl, x = .dl sz [] tl ∧ K (.tup []) H) ∨ (∃ id off len cs, x = .sl te.size id off len ∧ H[id]? = some (.cells cs) ∧ off + len * te.size ≤ cs.length ∧ K (.tup []) (H.set id (.cells (putA cs off (flat (List.replicate len z)))))))

section
variable {P : Program} {B : Nat} {w0 : World} {a : List AV} {H : AHeap} {μ μ' : Nat → Nat × Nat} {Z Z' : Nat → Nat → Prop} {w w' : World} {n n' : Nat}
variable {x y i v : AV} {cx cy ci : Value} {t t2 ty e : TypeId}

theorem appM_sound (K : AV → AHeap → Prop) (h : AppM P t t2 x y H K) (hR : R B w0 μ Z H w) (hx : VR μ Z w H.length x cx) (hy : VR μ Z w H.length y cy) :
  ∃ cv w' v μ' Z' H', (Builtin.append_ #[t, t2] ty #[cx, cy]).run P w = .ok cv w' ∧ R B w0 μ' Z' H' w' ∧ VR μ' Z' w' H'.length v cv ∧ Ev μ Z H w μ' Z' H' w' ∧ K v H' := by
 obtain ⟨ti, e, te, z, ys, sz, h1, h2, h3, h4, h5, h6, h7, rfl, hm, h8, h9, h10⟩ := h
 have hu := kind_slice h1 h2
 obtain ⟨news, hsrc, hnl, hys, hnv⟩ := src_runP h7 hR hy
 have hm0 : 0 < ys.length := List.length_pos_iff.2 hm
 obtain ⟨inf, zv, k1, k2, k3, _⟩ := zero_some (w := w) h3 h4
 have hzsz : zv.cells.size = te.size := by rw [← h5, k3, ofVal_cells]
 have hbytes : inf.bytes = te.bytes := by
  obtain ⟨inf', d, q1, _, _, _, q2, _⟩ := tyA_spec h3
  rw [k1] at q1; cases q1; exact q2.symm
 obtain ⟨A, rfl⟩ : ∃ A, cx = .slice A 0 0 := by
  generalize hL : ([] : List AV) = L at hx
  cases hx with
  | dl0 _ _ A cap q1 q2 => exact ⟨A, by rw [q1 rfl]⟩
  | dl _ _ _ c o cap f hs hc q1 q2 q3 q5 ht =>
   subst hL
   have : cap = 0 := ht
   subst this
   exact ⟨_, rfl⟩
 have hrun := run_app_grow (P := P) (w := w) (cy := cy) (t := t) (t2 := t2) (ty := ty) (A := A) (sL := 0) (sC := 0) (olds := []) hu h3 k1 k2 hsrc (by cases A <;> simp [Builtin.firstCells, loadCells, loadCellsFrom]) (by omega) (by omega) (by rw [hbytes, Nat.zero_add]; exact h8)
 rw [Nat.zero_add, show (([] : List Value).toArray ++ news.toArray) = news.toArray from by simp] at hrun
 have hcapg := grownCap_ge w ys.length 0 e
 have hfy := flat_length hys
 have hnews : news.length = ys.length * te.size := by omega
 generalize hzs : Builtin.zeroCells zv.cells (grownCap w ys.length 0 e - ys.length) = zs at hrun
 have hzsl : zs.size = (grownCap w ys.length 0 e - ys.length) * te.size := by rw [← hzs, zeroCells_size, hzsz]
 have hnew : (w.drew.alloc (.cells (news.toArray ++ zs) e)).heap[w.drew.heap.size]? = some (.cells (news.toArray ++ zs) e (0, 0)) := heap_alloc_new w.drew _
 have hpush := (hR.drew).push (.cells (flat ys)) (.cells (news.toArray ++ zs) e) rfl (by
  intro μ'' hm' he
  refine ⟨by rw [he]; exact hR.hB, by rw [he]; exact fun o ho => by have := hR.drew.zlt _ _ ho; simp only at this; omega, _, e, (0, 0), by rw [he]; exact hnew, ?_, by rw [he]; simp; omega, ?_⟩
  ·intro o _
   rw [he]
   simp only [World.frozen?, hnew]
   simp
  ·intro j v hj
   rw [he]
   obtain ⟨v', q1, q2, q3⟩ := hnv j v hj
   have hjl := (List.getElem?_eq_some_iff.1 q1).1
   refine ⟨v', by rw [Nat.zero_add, Array.getElem?_append_left (by simpa using hjl)]; simpa using q1, q2, ?_⟩
   exact q3.mono (Nat.le_succ _) hm' (fun _ _ h => h) (fun c o hz => cell_alloc w.drew _ c o (hR.drew.zlt c o hz)) (fun c hc => shape_alloc w.drew _ c hc))
 refine ⟨_, _, .sl te.size H.length 0 ys.length, _, _, _, hrun, ?_, ?_, (Ev.drew (μ := μ) (Z := Z) (H := H) (w := w)).trans hpush.2, h10⟩
 ·have := hpush.1
  simpa using this
 ·rw [List.length_append]
  have hsl := VR.sl (μ := ext μ H.length (w.drew.heap.size, 0)) (Z := Z) (w := w.drew.alloc (.cells (news.toArray ++ zs) e)) (n := H.length + 1) te.size H.length 0 ys.length (grownCap w ys.length 0 e) (by omega) hcapg h6 e (news.toArray ++ zs).size
   (by rw [ext_eq]; simp only [World.shape?, hnew]) (by
    rw [ext_eq]
    simp only [Array.size_append, List.size_toArray, hzsl, hnews, ← Nat.add_mul]
    have : ys.length + (grownCap w ys.length 0 e - ys.length) = grownCap w ys.length 0 e := by omega
    rw [this]; omega)
  rw [ext_eq] at hsl
  simpa using hsl

theorem eq_slice_none (e : TypeId) (hu : P.underlying t = some (.slice e)) (A : Option Addr) (l c : Nat) : (Op.equal t (.slice A l c) (.slice none 0 0)).run P w = .ok A.isNone w := by
 show (Op.equalIn (9999 + 1) t (.slice A l c) (.slice none 0 0)).run P w = _
 rw [Op.equalIn]
 cases A <;> simp [run_und hu]

theorem nil_sound {op : BinOp} {ne : Bool} (K : AV → AHeap → Prop) {ti : TyA} (h1 : tyA P t = some ti) (h2 : ti.kind = .slice e) (hop : isNe op = some ne) (h : NilQ ne x H K) (hx : VR μ Z w H.length x cx) : ∃ b, (binOp op t cx (.slice none 0 0)).run P w = .ok (.bool b) w ∧ K (.bool b) H ∧ ∃ A l c, cx = .slice A l c := by
 have hu := kind_slice h1 h2
 have key : ∀ A l c, (binOp op t (.slice A l c) (.slice none 0 0)).run P w = .ok (.bool (if ne then !A.isNone else A.isNone)) w := by
  intro A l c
  cases op <;> simp only [isNe, Option.some.injEq, reduceCtorEq] at hop <;> subst hop <;> simp [binOp, eq_slice_none e hu]
 unfold NilQ at h
 split at h
 ·rename_i sz es tl
  generalize hL : es = L at hx
  cases hx with
  | dl0 _ _ A cap q1 q2 =>
   subst hL
   exact ⟨_, key A 0 cap, h.1 rfl _, A, 0, cap, rfl⟩
  | dl _ _ _ c o cap f =>
   subst hL
   by_cases he : es = []
   ·exact ⟨_, key _ _ _, h.1 he _, _, _, _, rfl⟩
   ·refine ⟨_, key _ _ _, ?_, _, _, _, rfl⟩
    cases ne <;> exact h.2 he
 ·cases hx with
  | sl => refine ⟨_, key _ _ _, ?_, _, _, _, rfl⟩; cases ne <;> exact h
 ·exact h.elim

theorem clr_sound (K : AV → AHeap → Prop) (h : Clr P t x H K) (hR : R B w0 μ Z H w) (hx : VR μ Z w H.length x cx) :
  ∃ cv w' v H', (Builtin.clear_ #[t] ty #[cx]).run P w = .ok cv w' ∧ R B w0 μ Z H' w' ∧ VR μ Z w' H'.length v cv ∧ Ev μ Z H w μ Z H' w' ∧ K v H' := by
 obtain ⟨ti, e, te, z, h1, h2, h3, h4, h5, h5', h6, h⟩ := h
 have hu := kind_slice h1 h2
 have htup : ∀ {μ : Nat → Nat × Nat} {Z : Nat → Nat → Prop} {w : World} {n : Nat}, VR μ Z w n (.tup []) (.tuple #[]) := .tup [] #[] rfl (fun _ => default) (fun j v hj => by simp at hj) (fun j v hj => by simp at hj)
 rcases h with ⟨sz, tl, rfl, hk⟩ | ⟨id, off, len, cs, rfl, hid, hlen, hk⟩
 ·obtain ⟨A, c, rfl⟩ : ∃ A c, cx = .slice A 0 c := by
   generalize hL : ([] : List AV) = L at hx
   cases hx with
   | dl0 => exact ⟨_, _, rfl⟩
   | dl => subst hL; exact ⟨_, _, rfl⟩
  refine ⟨.tuple #[], w, .tup [], H, ?_, hR, htup, Ev.refl μ Z H w, hk⟩
  cases A <;> simp [Builtin.clear_, run_und hu]
 ·obtain ⟨inf, zv, k1, k2, k3, k4⟩ := zero_some (w := w) h3 h4
  have hzs : ∀ e', e' ∈ List.replicate len z → e'.cells.length = te.size := fun e' he => by rw [List.eq_of_mem_replicate he]; exact h5
  have hfl := flat_length hzs
  rw [List.length_replicate] at hfl
  have hzsz : zv.cells.size = te.size := by rw [← h5, k3, ofVal_cells]
  have hzv : VRs μ Z w H.length z.cells zv.cells := by
   subst k3
   have hv : VR μ Z w H.length (ofVal zv) zv := VR.ofVal zv
   refine hv.cells ?_
   rintro hc
   rw [hc] at h5'
   simp [AV.cells, AV.one] at h5'
  have hcl : ∀ (j : Nat) (v : AV), (flat (List.replicate len z))[j]? = some v → ∃ v', (Builtin.zeroCells zv.cells len).toList[j]? = some v' ∧ VR μ Z w H.length v v' := by
   intro j v hj
   have hlt : j < len * te.size := by rw [← hfl]; exact (List.getElem?_eq_some_iff.1 hj).1
   have hdiv : j / te.size < len := (Nat.div_lt_iff_lt_mul h6).2 hlt
   have hmod : j % te.size < te.size := Nat.mod_lt _ h6
   have e1 : j = j / te.size * te.size + j % te.size := by rw [Nat.mul_comm]; exact (Nat.div_add_mod j te.size).symm
   rw [e1, flat_get hzs (by simpa using hdiv) hmod] at hj
   have e2 : (List.replicate len z).getD (j / te.size) .undef = z := by simp [List.getD, hdiv]
   rw [e2] at hj
   obtain ⟨u, q1, q2⟩ := hzv.2 _ _ hj
   refine ⟨u, ?_, q2⟩
   have hm : j % te.size < zv.cells.size := by omega
   simp only [Builtin.zeroCells, hzsz]
   simp only [Array.toList_map, Array.toList_range, List.getElem?_map, List.getElem?_range, hlt, if_true, Option.map_some]
   rw [← q1, Array.getElem?_eq_getElem hm]
   congr 1
   exact getElem!_pos zv.cells _ hm
  have hone : (flat (List.replicate len z)).all AV.one = true := by
   refine List.all_eq_true.2 fun x hx => ?_
   simp only [flat, List.mem_flatMap] at hx
   obtain ⟨y, hy1, hy2⟩ := hx
   rw [List.eq_of_mem_replicate hy1] at hy2
   exact List.all_eq_true.1 h5' x hy2
  obtain ⟨g1, g2, g3⟩ := store_cells (P := P) hR hid (off := off) (vs := flat (List.replicate len z)) (cvs := (Builtin.zeroCells zv.cells len).toList) (by rw [hfl]; simp [zeroCells_size, hzsz]) (by omega) hcl hone
  cases hx with
  | sl _ _ _ _ cap hl hc hsz e' N hN hcap =>
   refine ⟨.tuple #[], _, .tup [], _, ?_, g2, htup, g3, hk⟩
   cases len with
   | zero =>
    have hz0 : (Builtin.zeroCells zv.cells 0).toList = [] := by simp [Builtin.zeroCells]
    rw [hz0]
    simp [Builtin.clear_, run_und hu, World.setCells]
   | succ m => simp [Builtin.clear_, run_und hu, k4, g1]
end
end Go.Av
end

section
set_option linter.unusedSimpArgs false
set_option linter.unusedVariables false
namespace Go.Av
open Go.RowKit

/-- append to a block of one's own: it goes over to a new one. -/
def AppO (P : Program) (t t2 : TypeId) (x y : AV) (H : AHeap) (K : AV → AHeap → Prop) : Prop :=
 ∃ ti e te z ys id len cs, tyA P t = some ti ∧ ti.kind = .slice e ∧ tyA P e = some te ∧ te.zero = some z ∧ z.cells.length = te.size ∧ 0 < te.size ∧ SrcP P H te.size t2 y ys ∧ x = .sl te.size id 0 len ∧ H[id]? = some (.cells cs) ∧ cs.length = len * te.size ∧
  (len + ys.length) * te.bytes ≤ 140737488355328 ∧ len + ys.length ≤ 4611686018427387904 ∧ K (.sl te.size H.length 0 (len + ys.length)) (H.set id .dead ++ [.cells (cs ++ flat ys)])

section
variable {P : Program} {B : Nat} {w0 : World} {a : List AV} {H : AHeap} {μ μ' : Nat → Nat × Nat} {Z Z' : Nat → Nat → Prop} {w w' : World} {n n' : Nat}
variable {x y i v : AV} {cx cy ci : Value} {t t2 ty e : TypeId}

theorem appO_sound (K : AV → AHeap → Prop) (h : AppO P t t2 x y H K) (hR : R B w0 μ Z H w) (hx : VR μ Z w H.length x cx) (hy : VR μ Z w H.length y cy) :
  ∃ cv w' v μ' Z' H', (Builtin.append_ #[t, t2] ty #[cx, cy]).run P w = .ok cv w' ∧ R B w0 μ' Z' H' w' ∧ VR μ' Z' w' H'.length v cv ∧ Ev μ Z H w μ' Z' H' w' ∧ K v H' := by
 obtain ⟨ti, e, te, z, ys, id, len, cs, h1, h2, h3, h4, h5, h6, h7, rfl, hid, hcl, h8, h9, h10⟩ := h
 have hu := kind_slice h1 h2
 obtain ⟨news, hsrc, hnl, hys, hnv⟩ := src_runP h7 hR hy
 obtain ⟨inf, zv, k1, k2, k3, _⟩ := zero_some (w := w) h3 h4
 have hzsz : zv.cells.size = te.size := by rw [← h5, k3, ofVal_cells]
 have hbytes : inf.bytes = te.bytes := by
  obtain ⟨inf', d, q1, _, _, _, q2, _⟩ := tyA_spec h3
  rw [k1] at q1; cases q1; exact q2.symm
 obtain ⟨b1, b2, ccs, e2, fr, b3, b4, b5, b6⟩ := hR.obj id _ hid
 have hfy := flat_length hys
 have hnl2 : news.length = ys.length * te.size := by omega
 have hcellw : ∀ k, w.cell? ⟨(μ id).1, k, none⟩ = ccs[k]? := fun k => cell_of_row w _ _ ccs e2 fr b3
 have honec : ∀ v, v ∈ news → v.oneCell' = true := by
  intro v hv
  obtain ⟨j, hj⟩ := List.getElem?_of_mem hv
  have hjl : j < (flat ys).length := by have := (List.getElem?_eq_some_iff.1 hj).1; omega
  obtain ⟨v', p1, p2, _⟩ := hnv j _ (List.getElem?_eq_getElem hjl)
  rw [hj] at p1; cases p1; exact p2
 have hidl := (List.getElem?_eq_some_iff.1 hid).1
 have hkl : (H.set id AObj.dead ++ [AObj.cells (cs ++ flat ys)]).length = H.length + 1 := by simp
 have hadd : (len + ys.length) * te.size = len * te.size + ys.length * te.size := Nat.add_mul _ _ _
 cases hx with
 | sl _ _ _ _ cap q1 q2 q3 e' N q4 q5 =>
 have hN : ccs.size = N := by
  simp only [World.shape?, b3, Option.some.injEq, Prod.mk.injEq] at q4
  exact q4.2
 have hjoin : ∀ (j : Nat) (v : AV), (cs ++ flat ys)[j]? = some v → ∃ v', ((if j < cs.length then ccs[(μ id).2 + j]? else news[j - cs.length]?) = some v') ∧ v'.oneCell' = true ∧ VR μ Z w H.length v v' := by
  intro j v hj
  by_cases hjl : j < cs.length
  ·rw [List.getElem?_append_left hjl] at hj
   rw [if_pos hjl]; exact b6 j v hj
  ·rw [List.getElem?_append_right (by omega)] at hj
   rw [if_neg hjl]; exact hnv _ v hj
 by_cases hroom : len + ys.length ≤ cap
 ·have hfit : (μ id).2 + (len + ys.length) * te.size ≤ ccs.size := by
   have := Nat.mul_le_mul_right te.size hroom
   omega
  have hst := run_storeCells_cells (P := P) (μ id).1 ((μ id).2 + 0 + len * te.size) news 0 w (fun j hj => by
   rw [Nat.add_zero, hcellw]; simp; omega) (fun j hj => by rw [Nat.add_zero]; exact b4 _ (by omega)) honec
  rw [Nat.add_zero] at hst
  obtain ⟨cs', p1, p2, p3, p4, p5, p6, p7, p8⟩ := setCells_block (μ id).1 news ((μ id).2 + 0 + len * te.size) w ccs e2 fr b3
  generalize hw' : w.setCells (μ id).1 ((μ id).2 + 0 + len * te.size) news = w' at *
  have hrun := run_app_room (P := P) (w := w) (w' := w') (cy := cy) (t := t) (t2 := t2) (ty := ty) (sL := len) (sC := cap) hu h3 hsrc hst hroom
  have hcell' : ∀ k, w'.cell? ⟨(μ id).1, k, none⟩ = cs'[k]? := fun k => cell_of_row w' _ _ cs' e2 fr p1
  have hzc : ∀ c' k, Z c' k → w'.cell? ⟨c', k, none⟩ = w.cell? ⟨c', k, none⟩ := by
   intro c' k hz
   exact World.cell?_of_block (a := ⟨c', k, none⟩) (p4 c' (fun e => b2 k (e ▸ hz)))
  have hsh : w'.shape? (μ id).1 = w.shape? (μ id).1 := by
   simp only [World.shape?, p1, b3, p2]
  have hshall : ∀ c, c < w.heap.size → w'.shape? c = w.shape? c := by
   intro c hc
   by_cases h : c = (μ id).1
   ·rw [h]; exact hsh
   ·unfold World.shape?; rw [p4 c h]
  have hpass := hR.pass (w' := w') hid rfl (o' := .cells (cs ++ flat ys)) rfl ((μ id).2) Z (fun _ _ h => h) (fun c' k h => .inl h) (fun k _ hk => p4 k hk) p5 p6 p7 p8 hzc hsh (by
   intro μ'' hm he
   refine ⟨by rw [he]; exact b1, by rw [he]; exact b2, cs', e2, fr, by rw [he]; exact p1, ?_, ?_, ?_⟩
   ·intro k hk; rw [he, ← hw', World.frozen?_setCells]; exact b4 k (by omega)
   ·rw [he, List.length_append, hfy]; simp only; omega
   ·intro j v hj
    obtain ⟨v', s1, s2, s3⟩ := hjoin j v hj
    have hjb := (List.getElem?_eq_some_iff.1 hj).1
    rw [List.length_append, hfy] at hjb
    refine ⟨v', ?_, s2, s3.mono (Nat.le_succ _) hm (fun _ _ h => h) hzc hshall⟩
    rw [he]
    simp only
    rw [p3 _ (by omega)]
    by_cases hjl : j < cs.length
    ·rw [if_neg (by omega)]; rw [if_pos hjl] at s1; exact s1
    ·rw [if_pos (by omega)]; rw [if_neg hjl] at s1; rw [← s1]; congr 1; omega)
  refine ⟨_, w', .sl te.size H.length 0 (len + ys.length), _, _, _, hrun, hpass.1, ?_, hpass.2, h10⟩
  rw [hkl]
  have hsl := VR.sl (μ := ext μ H.length ((μ id).1, (μ id).2)) (Z := Z) (w := w') (n := H.length + 1) te.size H.length 0 (len + ys.length) cap (by omega) hroom h6 e2 N
   (by rw [ext_eq]; simp only [World.shape?, p1, p2, hN]) (by rw [ext_eq]; exact q5)
  rw [ext_eq] at hsl
  exact hsl
 ·have hold : ∀ w2 : World, (∀ k, w2.cell? ⟨(μ id).1, k, none⟩ = ccs[k]?) → (Builtin.firstCells te.size len (.slice (some ⟨(μ id).1, (μ id).2 + 0, none⟩) len cap)).run P w2 = .ok (((List.range (len * te.size)).map fun j => (ccs[(μ id).2 + j]?).getD default).toArray) w2 := by
   intro w2 hw2
   refine run_firstCells_some w2 te.size len ⟨(μ id).1, (μ id).2 + 0, none⟩ _ cap _ (by simp) ?_
   intro j v hj
   have hlt : j < len * te.size := by have := (List.getElem?_eq_some_iff.1 hj).1; simpa using this
   simp [hlt] at hj
   subst hj
   have hb : (μ id).2 + j < ccs.size := by omega
   rw [addr_add, hw2, Nat.add_zero]
   simp [hb]
  have hrun := run_app_grow (P := P) (w := w) (cy := cy) (t := t) (t2 := t2) (ty := ty) (A := some ⟨(μ id).1, (μ id).2 + 0, none⟩) (sL := len) (sC := cap) hu h3 k1 k2 hsrc (hold w.drew hcellw) (by omega) h9 (by rw [hbytes]; exact h8)
  have hcapg := grownCap_ge w (len + ys.length) cap e
  generalize hzs : Builtin.zeroCells zv.cells (grownCap w (len + ys.length) cap e - (len + ys.length)) = zs at hrun
  have hzsl : zs.size = (grownCap w (len + ys.length) cap e - (len + ys.length)) * te.size := by rw [← hzs, zeroCells_size, hzsz]
  generalize hold2 : ((List.range (len * te.size)).map fun j => (ccs[(μ id).2 + j]?).getD default) = olds at hrun
  have holdl : olds.length = len * te.size := by rw [← hold2]; simp
  have holdg : ∀ j, j < len * te.size → olds[j]? = ccs[(μ id).2 + j]? := by
   intro j hj
   have hb : (μ id).2 + j < ccs.size := by omega
   rw [← hold2]; simp [hj, hb]
  have hsub : Sub (H.set id .dead) H := by
   refine ⟨by simp, fun i o hi ha => ?_⟩
   by_cases hit : id = i
   ·subst hit
    rw [List.getElem?_set_self hidl] at hi
    cases hi; cases ha
   ·rw [getElem?_set_ne hit] at hi; exact hi
  have r1 := hR.sub hsub
  have r2 : Ev μ Z H w μ Z (H.set id .dead) w := Ev.sub hsub
  have hnew : (w.drew.alloc (.cells (olds.toArray ++ news.toArray ++ zs) e)).heap[w.drew.heap.size]? = some (.cells (olds.toArray ++ news.toArray ++ zs) e (0, 0)) := heap_alloc_new w.drew _
  have hdl : (H.set id AObj.dead).length = H.length := by simp
  have hpush := (r1.drew).push (.cells (cs ++ flat ys)) (.cells (olds.toArray ++ news.toArray ++ zs) e) rfl (by
   intro μ'' hm' he
   refine ⟨by rw [he]; exact hR.hB, by rw [he]; exact fun o ho => by have := hR.drew.zlt _ _ ho; simp only at this; omega, _, e, (0, 0), by rw [he]; exact hnew, ?_, by rw [he]; simp [hfy, holdl, hnl2]; omega, ?_⟩
   ·intro o _
    rw [he]
    simp only [World.frozen?, hnew]
    simp
   ·intro j v hj
    rw [he]
    obtain ⟨v', s1, s2, s3⟩ := hjoin j v hj
    have hjb := (List.getElem?_eq_some_iff.1 hj).1
    rw [List.length_append, hfy] at hjb
    refine ⟨v', ?_, s2, ?_⟩
    ·simp only [Nat.zero_add]
     by_cases hjl : j < cs.length
     ·rw [if_pos hjl] at s1
      rw [Array.getElem?_append_left (by simp; omega), Array.getElem?_append_left (by simp; omega), List.getElem?_toArray, holdg j (by omega)]
      exact s1
     ·rw [if_neg hjl] at s1
      rw [Array.getElem?_append_left (by simp; omega), Array.getElem?_append_right (by simp; omega), List.getElem?_toArray, ← s1]
      congr 1; simp; omega
    ·rw [hdl]
     exact s3.mono (Nat.le_succ _) (fun i hi => hm' i (by rw [hdl]; exact hi)) (fun _ _ h => h) (fun c o hz => cell_alloc w.drew _ c o (hR.drew.zlt c o hz)) (fun c hc => shape_alloc w.drew _ c hc))
  refine ⟨_, _, .sl te.size H.length 0 (len + ys.length), _, _, _, hrun, hpush.1, ?_, (r2.trans (Ev.drew (μ := μ) (Z := Z) (w := w))).trans hpush.2, h10⟩
  rw [hkl, hdl]
  have hsl := VR.sl (μ := ext μ H.length (w.drew.heap.size, 0)) (Z := Z) (w := w.drew.alloc (.cells (olds.toArray ++ news.toArray ++ zs) e)) (n := H.length + 1) te.size H.length 0 (len + ys.length) (grownCap w (len + ys.length) cap e) (by omega) hcapg h6 e (olds.toArray ++ news.toArray ++ zs).size
   (by rw [ext_eq]; simp only [World.shape?, hnew]) (by
    rw [ext_eq]
    simp only [Array.size_append, List.size_toArray, hzsl, hnl2, holdl, ← Nat.add_mul]
    have : len + ys.length + (grownCap w (len + ys.length) cap e - (len + ys.length)) = grownCap w (len + ys.length) cap e := by omega
    rw [this]; omega)
  rw [ext_eq] at hsl
  exact hsl
end
end Go.Av
end
