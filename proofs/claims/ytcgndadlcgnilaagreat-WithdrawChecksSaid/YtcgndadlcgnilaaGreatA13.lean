/- the layer over the model, part 13 -/
import Derived.Test.YtcgndadlcgnilaaGreatA12
set_option autoImplicit false
set_option linter.unusedSimpArgs false
set_option linter.unusedVariables false
set_option linter.unnecessarySimpa false
section
set_option linter.unusedSimpArgs false
set_option linter.unusedVariables false
namespace Go.Av
open Go.RowKit

/-- What is appended: the elements of a frozen slice, the bytes of a string. -/
def srcA (P : Program) (s : Nat) (t2 : TypeId) (y : AV) : Option (List AV) :=
 match tyA P t2 with
 | some i => match i.kind, y with
  | .slice _, .dl sz ys _ => if sz = s ∨ ys = [] then some ys else none
  | .str, .str b => if s = 1 then some (b.map fun c => .int .u8 (c.toNat : Int)) else none
  | _, _ => none
 | none => none

def mayGrow (H : AHeap) : Tail → Prop
 | .none => False
 | .full => True
 | .tok t => H[t]? = some .tok

def kill (H : AHeap) : Tail → AHeap
 | .tok t => H.set t .dead
 | _ => H

/-- append to a frozen slice: what is known of its end goes over. -/
def AApp (P : Program) (t t2 : TypeId) (x y : AV) (H : AHeap) (K : AV → AHeap → Prop) : Prop :=
 ∃ ti e te z ys sz es tl, tyA P t = some ti ∧ ti.kind = .slice e ∧ tyA P e = some te ∧ te.zero = some z ∧ z.cells.length = te.size ∧ 0 < te.size ∧ srcA P te.size t2 y = some ys ∧ x = .dl sz es tl ∧
  (sz = te.size ∨ (es = [] ∧ tl = .full)) ∧ (ys = [] → K (.dl te.size es tl) H) ∧ (ys ≠ [] → mayGrow H tl ∧ (es.length + ys.length) * te.bytes ≤ 140737488355328 ∧ es.length + ys.length ≤ 4611686018427387904 ∧
   K (.dl te.size (es ++ ys) (.tok H.length)) (kill H tl ++ [.tok]))

section
variable {P : Program} {B : Nat} {w0 : World} {a : List AV} {H : AHeap} {μ μ' : Nat → Nat × Nat} {Z Z' : Nat → Nat → Prop} {w w' : World} {n n' : Nat}
variable {x y i v : AV} {cx cy ci : Value} {t t2 ty e : TypeId}

theorem ofVal_cells (zv : Value) : (ofVal zv).cells.length = zv.cells.size := by
 cases zv with
 | agg cs => simp [ofVal, AV.cells, Value.cells]
 | slice a l c => simp only [ofVal, ofVal1, Value.cells]; split <;> simp_all [AV.cells]
 | pointer a => cases a <;> rfl
 | map r => cases r <;> rfl
 | _ => rfl

/-- The source of an append, as the model reads it. -/
structure Src (P : Program) (s : Nat) (t2 : TypeId) (cy : Value) (m : Nat) (news : List Value) (w : World) : Prop where
 notInt : ∀ k, P.underlying t2 ≠ some (.int k)
 hasTy : ∃ d, P.underlying t2 = some d
 len : ∀ w', (Builtin.lenOf cy).run P w' = .ok m w'
 first : (Builtin.firstCells s m cy).run P w = .ok news.toArray w
 firstD : (Builtin.firstCells s m cy).run P w.drew = .ok news.toArray w.drew
 hl : news.length = m * s

theorem run_app_room {sL sC m c o : Nat} {te : TyA} {news : List Value} (hu : P.underlying t = some (.slice e)) (hte : tyA P e = some te) (hs : Src P te.size t2 cy m news w)
  (hst : (storeCells ⟨c, o + sL * te.size, none⟩ news 0).run P w = .ok () w') (hroom : sL + m ≤ sC) :
  (Builtin.append_ #[t, t2] ty #[.slice (some ⟨c, o, none⟩) sL sC, cy]).run P w = .ok (.slice (some ⟨c, o, none⟩) (sL + m) sC) w' := by
 obtain ⟨d, hd⟩ := hs.hasTy
 have hni : ∀ k, d ≠ .int k := fun k e => hs.notInt k (by rw [hd, e])
 cases d <;> first
  | (exact absurd rfl (hni _))
  | simp [Builtin.append_, run_und hu, run_und hd, run_sizeOf' hte, hs.len, hroom, hs.first, addr_add, hst]

theorem run_app_grow {A : Option Addr} {sL sC m : Nat} {te : TyA} {news olds : List Value} {zv : Value} {inf : TypeInfo} (hu : P.underlying t = some (.slice e)) (hte : tyA P e = some te) (hinf : P.info? e = some inf) (hz : inf.zero = some zv)
  (hs : Src P te.size t2 cy m news w) (hold : (Builtin.firstCells te.size sL (.slice A sL sC)).run P w.drew = .ok olds.toArray w.drew) (hroom : sC < sL + m) (h63 : sL + m ≤ 4611686018427387904)
  (hfit : (sL + m) * inf.bytes ≤ 140737488355328) :
  (Builtin.append_ #[t, t2] ty #[.slice A sL sC, cy]).run P w = .ok (.slice (some ⟨w.heap.size, 0, none⟩) (sL + m) (grownCap w (sL + m) sC e))
   (w.drew.alloc (.cells (olds.toArray ++ news.toArray ++ Builtin.zeroCells zv.cells (grownCap w (sL + m) sC e - (sL + m))) e)) := by
 obtain ⟨d, hd⟩ := hs.hasTy
 have hni : ∀ k, d ≠ .int k := fun k e => hs.notInt k (by rw [hd, e])
 have hn : ¬ (sL + m ≤ sC) := by omega
 have h63' : ¬ (9223372036854775807 < ((sL : Int) + (m : Int))) := by omega
 have h48' : ¬ (281474976710656 < Builtin.nextslicecap (sL + m) sC * inf.bytes) := by
  have := growslice_fits (need := sL + m) (old := sC) (bytes := inf.bytes) hroom hfit; omega
 have hsz := run_sizeOf' (w := w) hte
 have hsz2 := run_sizeOf' (w := w.drew) hte
 have hf := hs.firstD
 have hinf1 : (typeInfo e).run P w = .ok inf w := run_typeInfo' hinf
 have hinf2 : (typeInfo e).run P w.drew = .ok inf w.drew := run_typeInfo' hinf
 have hzv : (zeroValue e).run P w.drew = .ok zv w.drew := by simp [zeroValue, hinf2, hz]
 have hzeros : (match d with | .int _ => true | _ => false) = false := by cases d <;> first | rfl | exact absurd rfl (hni _)
 simp [Builtin.append_, run_und hu, run_und hd, hzeros, hsz, hsz2, hinf1, hinf2, hzv, hs.len, hn, h63', h48', Question.forced, hf, hold, newRow, grownCap]
 congr 2
 apply Array.ext'
 simp [List.append_assoc]

theorem src_run {s : Nat} {ys : List AV} (h : srcA P s t2 y = some ys) (hR : R B w0 μ Z H w) (hy : VR μ Z w H.length y cy) :
  ∃ news, Src P s t2 cy ys.length news w ∧ (flat ys).length = news.length ∧ (∀ e, e ∈ ys → e.cells.length = s) ∧
   ∀ (j : Nat) (v : AV), (flat ys)[j]? = some v → ∃ v', news[j]? = some v' ∧ v'.oneCell' = true ∧ VR μ Z w H.length v v' := by
 unfold srcA at h
 split at h
 ·rename_i i hi
  split at h
  ·rename_i e' sz ys' tl hk
   have hu := kind_slice hi hk
   split at h
   ·rename_i hc
    cases h
    cases hy with
    | dl0 _ _ A cap h0 ht =>
     refine ⟨[], ⟨fun k => by rw [hu]; simp, ⟨_, hu⟩, fun w' => by simp [Builtin.lenOf], ?_, ?_, by simp⟩, by simp [flat], by simp, by simp [flat]⟩
     ·cases A <;> simp [Builtin.firstCells, loadCells, loadCellsFrom]
     ·cases A <;> simp [Builtin.firstCells, loadCells, loadCellsFrom]
    | dl _ _ _ c o cap f hs hcap h1 h2 h3 h5 ht =>
     have hs' : ∀ e, e ∈ ys → e.cells.length = s := by
      intro e he
      rcases hc with hc | hc
      ·rw [hs e he, hc]
      ·rw [hc] at he; cases he
     have hl := flat_length hs'
     have hcell : ∀ (j : Nat) (v : Value), ((List.range (flat ys).length).map f)[j]? = some v → w.cell? ((⟨c, o, none⟩ : Addr).add j) = some v := by
      intro j v hj
      have hlt : j < (flat ys).length := by have := (List.getElem?_eq_some_iff.1 hj).1; simpa using this
      simp [hlt] at hj
      subst hj
      rw [addr_add]
      exact h1 j _ (List.getElem?_eq_getElem hlt)
     refine ⟨(List.range (flat ys).length).map f, ⟨fun k => by rw [hu]; simp, ⟨_, hu⟩, fun w' => by simp [Builtin.lenOf], ?_, ?_, by simp [hl]⟩, by simp, hs', ?_⟩
     ·exact run_firstCells_some w s ys.length ⟨c, o, none⟩ _ cap _ (by simp [hl]) hcell
     ·exact run_firstCells_some w.drew s ys.length ⟨c, o, none⟩ _ cap _ (by simp [hl]) hcell
     ·intro j v hj
      have hlt := (List.getElem?_eq_some_iff.1 hj).1
      exact ⟨f j, by simp [hlt], h5 j hlt, h3 j v hj⟩
   ·cases h
  ·rename_i b hk
   have hu := kind_str hi hk
   split at h
   ·rename_i hs1
    cases h; cases hy
    have hfl : flat (b.map fun c => AV.int .u8 (c.toNat : Int)) = b.map fun c => AV.int .u8 (c.toNat : Int) := by
     clear hu hk hi
     induction b with
     | nil => rfl
     | cons x l ih => rw [List.map_cons, flat_cons, ih]; rfl
    have hx : ((⟨b.toArray⟩ : ByteArray).extract 0 b.length).data.map (fun c => Value.int .u8 (c.toNat : Int)) = (b.map fun c => Value.int .u8 (c.toNat : Int)).toArray := by
     rw [ByteArray.extract_mk]; simp
    refine ⟨b.map fun c => .int .u8 (c.toNat : Int), ⟨fun k => by rw [hu]; simp, ⟨_, hu⟩, fun w' => by simp [Builtin.lenOf, ByteArray.size], ?_, ?_, by simp [hs1]⟩, by rw [hfl]; simp, ?_, ?_⟩
    ·simp only [Builtin.firstCells, List.length_map, hx, Sem.run_pure]
    ·simp only [Builtin.firstCells, List.length_map, hx, Sem.run_pure]
    ·intro e he
     simp only [List.mem_map] at he
     obtain ⟨c, _, rfl⟩ := he
     rw [hs1]; rfl
    ·intro j v hj
     rw [hfl] at hj
     simp only [List.getElem?_map, Option.map_eq_some_iff] at hj
     obtain ⟨c, h1, rfl⟩ := hj
     exact ⟨.int .u8 (c.toNat : Int), by simp [h1], rfl, .int _ _⟩
   ·cases h
  ·cases h
 ·cases h

theorem zeroCells_size (z : Array Value) (k : Nat) : (Builtin.zeroCells z k).size = k * z.size := by simp [Builtin.zeroCells]

/-- A slice whose cells have just been written out in a new block. -/
theorem grown_sound (hR : R B w0 μ Z H w) {sz : Nat} {es : List AV} {news : List Value} (hl : (flat es).length = news.length) (hs : ∀ e, e ∈ es → e.cells.length = sz) (hsz : 0 < sz)
  (hv : ∀ (j : Nat) (v : AV), (flat es)[j]? = some v → ∃ v', news[j]? = some v' ∧ v'.oneCell' = true ∧ VR μ Z w H.length v v') (zs : Array Value) (e : TypeId) (cap : Nat) (hcap : es.length ≤ cap) (hzs : zs.size = (cap - es.length) * sz) :
  let Z' := fun c k => Z c k ∨ (c = w.heap.size ∧ k < news.length)
  let μ' := ext μ H.length (w.heap.size, es.length * sz)
  R B w0 μ' Z' (H ++ [.tok]) (w.alloc (.cells (news.toArray ++ zs) e)) ∧ Ev μ Z H w μ' Z' (H ++ [.tok]) (w.alloc (.cells (news.toArray ++ zs) e)) ∧
   VR μ' Z' (w.alloc (.cells (news.toArray ++ zs) e)) (H.length + 1) (.dl sz es (.tok H.length)) (.slice (some ⟨w.heap.size, 0, none⟩) es.length cap) := by
 intro Z' μ'
 have hfl := flat_length hs
 have hnew : (w.alloc (.cells (news.toArray ++ zs) e)).heap[w.heap.size]? = some (.cells (news.toArray ++ zs) e (0, 0)) := heap_alloc_new w _
 have hpush := hR.pushZ .tok (.cells (news.toArray ++ zs) e) (es.length * sz) Z' (fun _ _ h => .inl h) (fun c k h => h.imp id (·.1)) rfl (by
  intro μ'' hm he
  refine ⟨by rw [he]; exact hR.hB, ?_, _, e, (0, 0), by rw [he]; exact hnew, ?_⟩
  ·intro o ho
   rw [he] at ho ⊢
   rcases ho with ho | ⟨_, ho⟩
   ·have := hR.zlt _ _ ho; simp only at this; omega
   ·simp only; omega
  ·intro o _
   rw [he]
   simp only [World.frozen?, hnew]
   simp)
 refine ⟨hpush.1, hpush.2, ?_⟩
 obtain ⟨f, hf⟩ : ∃ f : Nat → Value, ∀ j v, (flat es)[j]? = some v → news[j]? = some (f j) ∧ (f j).oneCell' = true ∧ VR μ Z w H.length v (f j) := by
  refine ⟨fun j => (news[j]?).getD default, fun j v hj => ?_⟩
  obtain ⟨u, k1, k2, k3⟩ := hv j v hj
  simp only [k1, Option.getD_some]
  exact ⟨trivial, k2, k3⟩
 refine .dl sz es _ w.heap.size 0 cap f hs hcap ?_ ?_ ?_ ?_ ?_
 ·intro j v hj
  have hlt := (List.getElem?_eq_some_iff.1 hj).1
  rw [cell_of_row _ _ _ _ e (0, 0) hnew, Nat.zero_add, Array.getElem?_append_left (by simp; omega)]
  simpa using (hf j v hj).1
 ·intro j hj; exact .inr ⟨rfl, by omega⟩
 ·intro j v hj
  have := (hf j v hj).2.2.ev hpush.2
  rw [List.length_append] at this
  exact this
 ·intro j hj; exact (hf j _ (List.getElem?_eq_getElem hj)).2.1
 ·refine ⟨by omega, ?_, hsz, e, cap * sz, ?_, by omega⟩
  ·show ext μ H.length _ H.length = _
   rw [ext_eq]; simp
  ·simp only [World.shape?, hnew]
   congr 2
   rw [Array.size_append, hzs, List.size_toArray, ← hl, hfl, ← Nat.add_mul]
   congr 1; omega

/-- append, in whatever way the model grows the slice. -/
theorem app_sound (K : AV → AHeap → Prop) (h : AApp P t t2 x y H K) (hR : R B w0 μ Z H w) (hx : VR μ Z w H.length x cx) (hy : VR μ Z w H.length y cy) :
  ∃ cv w' v μ' Z' H', (Builtin.append_ #[t, t2] ty #[cx, cy]).run P w = .ok cv w' ∧ R B w0 μ' Z' H' w' ∧ VR μ' Z' w' H'.length v cv ∧ Ev μ Z H w μ' Z' H' w' ∧ K v H' := by
 obtain ⟨ti, e, te, z, ys, sz, es, tl, h1, h2, h3, h4, h5, h6, h7, rfl, g2, h8, h9⟩ := h
 have hu := kind_slice h1 h2
 obtain ⟨news, hsrc, hnl, hys, hnv⟩ := src_run h7 hR hy
 have hform : ∃ A cap, cx = .slice A es.length cap ∧ es.length ≤ cap := by
  cases hx with
  | dl0 => exact ⟨_, _, rfl, Nat.zero_le _⟩
  | dl => exact ⟨_, _, rfl, by assumption⟩
 by_cases hm : ys = []
 ·-- nothing is appended
  subst hm
  have hn0 : news = [] := by rw [← List.length_eq_zero_iff, ← hnl]; rfl
  subst hn0
  obtain ⟨A, cap, rfl, hcap⟩ := hform
  have hx' : VR μ Z w H.length (.dl te.size es tl) (.slice A es.length cap) := by
   refine hx.weak (.inr (.inr ⟨te.size, sz, es, tl, tl, rfl, rfl, .inl rfl, ?_⟩))
   rcases g2 with rfl | ⟨rfl, rfl⟩
   ·exact .inl rfl
   ·exact .inr ⟨rfl, fun t e => by cases e⟩
  refine ⟨.slice A es.length cap, w, _, μ, Z, H, ?_, hR, hx', Ev.refl μ Z H w, h8 rfl⟩
  obtain ⟨d, hd⟩ := hsrc.hasTy
  have hni : ∀ k, d ≠ .int k := fun k e => hsrc.notInt k (by rw [hd, e])
  have hzeros : (match d with | .int _ => true | _ => false) = false := by cases d <;> first | rfl | exact absurd rfl (hni _)
  have hlen0 : ∀ w', (Builtin.lenOf cy).run P w' = .ok 0 w' := by simpa using hsrc.len
  have hf0 : (Builtin.firstCells te.size 0 cy).run P w = .ok #[] w := by simpa using hsrc.first
  cases A <;> simp [Builtin.append_, run_und hu, run_und hd, hzeros, run_sizeOf' h3, hlen0, hcap, hf0, storeCells]
 ·obtain ⟨g1, g3, g4, g5⟩ := h9 hm
  have hm0 : 0 < ys.length := List.length_pos_iff.2 hm
  obtain ⟨inf, zv, k1, k2, k3, _⟩ := zero_some (w := w) h3 h4
  have hzsz : zv.cells.size = te.size := by rw [← h5, k3, ofVal_cells]
  have hbytes : inf.bytes = te.bytes := by
   obtain ⟨inf', d, q1, _, _, _, q2, _⟩ := tyA_spec h3
   rw [k1] at q1; cases q1; exact q2.symm
  have hes : ∀ e', e' ∈ es → e'.cells.length = te.size := by
   intro e' he'
   rcases g2 with g2 | ⟨g2, _⟩
   ·rw [← g2]
    cases hx with
    | dl0 => cases he'
    | dl _ _ _ c o cap f hs hc q1 q2 q3 q5 ht => exact hs e' he'
   ·rw [g2] at he'; cases he'
  have hall : ∀ e', e' ∈ es ++ ys → e'.cells.length = te.size := by
   intro e' he'
   rcases List.mem_append.1 he' with he' | he'
   ·exact hes e' he'
   ·exact hys e' he'
  -- the old elements, as the model reads them
  have holds : ∃ olds : List Value, (∀ w', (∀ b o, b < w.heap.size → w'.cell? ⟨b, o, none⟩ = w.cell? ⟨b, o, none⟩) → ∀ A cap, cx = .slice A es.length cap → (Builtin.firstCells te.size es.length cx).run P w' = .ok olds.toArray w') ∧ (flat es).length = olds.length ∧
    ∀ (j : Nat) (v : AV), (flat es)[j]? = some v → ∃ v', olds[j]? = some v' ∧ v'.oneCell' = true ∧ VR μ Z w H.length v v' := by
   cases hx with
   | dl0 _ _ A cap q1 q2 =>
    refine ⟨[], ?_, by simp [flat], by simp [flat]⟩
    intro w' _ A' cap' _
    cases A <;> simp [Builtin.firstCells, loadCells, loadCellsFrom]
   | dl _ _ _ c o cap f hs hc q1 q2 q3 q5 ht =>
    have hl := flat_length hes
    refine ⟨(List.range (flat es).length).map f, ?_, by simp, ?_⟩
    ·intro w' hw' A' cap' _
     refine run_firstCells_some w' te.size es.length ⟨c, o, none⟩ _ cap _ (by simp [hl]) ?_
     intro j v hj
     have hlt : j < (flat es).length := by have := (List.getElem?_eq_some_iff.1 hj).1; simpa using this
     simp [hlt] at hj
     subst hj
     have hcell := q1 j _ (List.getElem?_eq_getElem hlt)
     rw [addr_add, hw' c (o + j) (hR.zlt _ _ (q2 j hlt))]
     exact hcell
    ·intro j v hj
     have hlt := (List.getElem?_eq_some_iff.1 hj).1
     exact ⟨f j, by simp [hlt], q5 j hlt, q3 j v hj⟩
  obtain ⟨olds, ho1, ho2, ho3⟩ := holds
  obtain ⟨A, cap, hcx, hcap⟩ := hform
  have hflat : flat (es ++ ys) = flat es ++ flat ys := flat_append es ys
  have hjoin : ∀ (j : Nat) (v : AV), (flat (es ++ ys))[j]? = some v → ∃ v', (olds ++ news)[j]? = some v' ∧ v'.oneCell' = true ∧ VR μ Z w H.length v v' := by
   intro j v hj
   rw [hflat] at hj
   by_cases hjl : j < (flat es).length
   ·rw [List.getElem?_append_left hjl] at hj
    obtain ⟨v', q1, q2, q3⟩ := ho3 j v hj
    exact ⟨v', by rw [List.getElem?_append_left (by omega)]; exact q1, q2, q3⟩
   ·rw [List.getElem?_append_right (by omega)] at hj
    obtain ⟨v', q1, q2, q3⟩ := hnv _ v hj
    exact ⟨v', by rw [List.getElem?_append_right (by omega), ← ho2]; exact q1, q2, q3⟩
  have grows : cap < es.length + ys.length → ∃ cv w' v μ' Z' H', (Builtin.append_ #[t, t2] ty #[cx, cy]).run P w = .ok cv w' ∧ R B w0 μ' Z' H' w' ∧ VR μ' Z' w' H'.length v cv ∧ Ev μ Z H w μ' Z' H' w' ∧ K v H' := by
   intro hlt
   have hrun := run_app_grow (P := P) (w := w) (cy := cy) (t := t) (t2 := t2) (ty := ty) (A := A) (sL := es.length) (sC := cap) hu h3 k1 k2 hsrc (by have := ho1 w.drew (fun _ _ _ => rfl) A cap hcx; rwa [hcx] at this) hlt g4 (by rw [hbytes]; exact g3)
   have hsub : Sub (kill H tl) H := by
    cases tl with
    | tok t' =>
     refine ⟨by simp [kill], fun i o hi ha => ?_⟩
     simp only [kill] at hi
     by_cases hit : t' = i
     ·subst hit
      have hlt' : t' < H.length := by have := (List.getElem?_eq_some_iff.1 hi).1; simpa using this
      rw [List.getElem?_set_self hlt'] at hi
      cases hi; cases ha
     ·rw [getElem?_set_ne hit] at hi; exact hi
    | _ => exact ⟨rfl, fun i o hi _ => hi⟩
   have hR1 : R B w0 μ Z (kill H tl) w.drew := (hR.sub hsub).drew
   have hcapg := grownCap_ge w (es.length + ys.length) cap e
   have hlen : (es ++ ys).length = es.length + ys.length := List.length_append
   have hg := grown_sound (sz := te.size) (es := es ++ ys) (news := olds ++ news) hR1 (by rw [hflat, List.length_append, List.length_append, ho2, hnl]) hall h6
    (fun j v hj => by obtain ⟨v', q1, q2, q3⟩ := hjoin j v hj; exact ⟨v', q1, q2, by rw [hsub.1]; exact q3.ev (Ev.drew (μ := μ) (Z := Z) (H := H) (w := w))⟩)
    (Builtin.zeroCells zv.cells (grownCap w (es.length + ys.length) cap e - (es.length + ys.length))) e (grownCap w (es.length + ys.length) cap e) (by rw [hlen]; exact hcapg) (by rw [zeroCells_size, hzsz, hlen])
   obtain ⟨r1, r2, r3⟩ := hg
   have e1 : (olds ++ news).toArray = olds.toArray ++ news.toArray := by simp
   rw [e1] at r1 r2 r3
   refine ⟨.slice (some ⟨w.heap.size, 0, none⟩) (es ++ ys).length (grownCap w (es.length + ys.length) cap e), _, _, _, _, _, by rw [hcx, hlen]; exact hrun, r1, ?_, ?_, by rw [← hsub.1] at g5; exact g5⟩
   ·have hk : (kill H tl ++ [AObj.tok]).length = (kill H tl).length + 1 := by simp
    rw [hk]
    exact r3
   ·have hev : Ev μ Z H w μ Z (kill H tl) w.drew := (Ev.sub hsub).trans Ev.drew
    exact hev.trans r2
  cases tl with
  | none => exact g1.elim
  | full =>
   refine grows ?_
   rw [hcx] at hx
   generalize hL : es.length = L at hx
   cases hx with
   | dl0 _ _ _ _ q1 q2 => have := q1 rfl; omega
   | dl _ _ _ c o _ f hs hc q1 q2 q3 q5 ht => simp only [TailR] at ht; omega
  | tok t' =>
   by_cases hroom : es.length + ys.length ≤ cap
   ·-- there is room
    rw [hcx] at hx
    generalize hL : es.length = L at hx
    cases hx with
    | dl0 _ _ _ _ q1 q2 => exact absurd rfl (q2 t')
    | dl _ _ _ c o _ f hs hc q1 q2 q3 q5 ht =>
     obtain ⟨r1, r2, r3, e', N, r4, r5⟩ := ht
     have hsz : sz = te.size := by
      rcases g2 with g2 | ⟨_, g2⟩
      ·exact g2
      ·cases g2
     subst hsz
     clear hL
     obtain ⟨b1, b2, ccs, e2, fr, b3, b4⟩ := hR.obj t' _ g1
     have hμ1 : (μ t').1 = c := by rw [r2]
     have hμ2 : (μ t').2 = o + es.length * te.size := by rw [r2]
     rw [hμ1] at b1 b2 b3 b4
     have hN : ccs.size = N := by
      simp only [World.shape?, b3, Option.some.injEq, Prod.mk.injEq] at r4
      exact r4.2
     have hfit : o + (es.length + ys.length) * te.size ≤ ccs.size := by
      have := Nat.mul_le_mul_right te.size hroom
      omega
     have hfe := flat_length hes
     have hfy := flat_length hys
     have hnl2 : news.length = ys.length * te.size := by omega
     have hadd : (es.length + ys.length) * te.size = es.length * te.size + ys.length * te.size := Nat.add_mul _ _ _
     have hcellw : ∀ k, w.cell? ⟨c, k, none⟩ = ccs[k]? := fun k => cell_of_row w _ _ ccs e2 fr b3
     have honec : ∀ v, v ∈ news → v.oneCell' = true := by
      intro v hv
      obtain ⟨j, hj⟩ := List.getElem?_of_mem hv
      have hjl : j < (flat ys).length := by have := (List.getElem?_eq_some_iff.1 hj).1; omega
      obtain ⟨v', p1, p2, _⟩ := hnv j _ (List.getElem?_eq_getElem hjl)
      rw [hj] at p1; cases p1; exact p2
     have hst := run_storeCells_cells (P := P) c (o + es.length * te.size) news 0 w (fun j hj => by
      rw [Nat.add_zero, hcellw]; simp; omega) (fun j hj => by rw [Nat.add_zero]; exact b4 _ (by omega)) honec
     rw [Nat.add_zero] at hst
     obtain ⟨cs', p1, p2, p3, p4, p5, p6, p7, p8⟩ := setCells_block c news (o + es.length * te.size) w ccs e2 fr b3
     generalize hw' : w.setCells c (o + es.length * te.size) news = w' at *
     have hrun := run_app_room (P := P) (w := w) (w' := w') (cy := cy) (t := t) (t2 := t2) (ty := ty) (sL := es.length) (sC := cap) hu h3 hsrc hst hroom
     have hcell' : ∀ k, w'.cell? ⟨c, k, none⟩ = cs'[k]? := fun k => cell_of_row w' _ _ cs' e2 fr p1
     have hlow : ∀ k, k < o + es.length * te.size → w'.cell? ⟨c, k, none⟩ = w.cell? ⟨c, k, none⟩ := by
      intro k hk
      rw [hcell', hcellw, p3 k (by omega), if_neg (by omega)]
     have hzc : ∀ c' k, Z c' k → w'.cell? ⟨c', k, none⟩ = w.cell? ⟨c', k, none⟩ := by
      intro c' k hz
      by_cases hc' : c' = c
      ·subst hc'
       have := b2 k hz
       rw [hμ2] at this
       exact hlow k this
      ·exact World.cell?_of_block (a := ⟨c', k, none⟩) (p4 c' hc')
     have hsh : w'.shape? (μ t').1 = w.shape? (μ t').1 := by
      rw [hμ1]; simp only [World.shape?, p1, b3, p2]
     have hfr' : ∀ k, k < cs'.size → w'.frozen? ⟨c, k, none⟩ = false := by
      intro k hk
      rw [← hw', World.frozen?_setCells]
      exact b4 k (by omega)
     have hpass := hR.pass (w' := w') g1 rfl (o' := .tok) rfl (o + (es.length + ys.length) * te.size) (fun c' k => Z c' k ∨ (c' = c ∧ o + es.length * te.size ≤ k ∧ k < o + (es.length + ys.length) * te.size))
      (fun _ _ h => .inl h) (fun c' k h => h.imp id (fun h => by rw [hμ1]; exact h.1)) (fun k _ hk => p4 k (by rw [hμ1] at hk; exact hk)) p5 p6 p7 p8 hzc hsh (by
       intro μ'' hm he
       refine ⟨by rw [he, hμ1]; exact b1, ?_, cs', e2, fr, by rw [he, hμ1]; exact p1, ?_⟩
       ·intro k hk
        rw [he] at hk ⊢
        rw [hμ1] at hk
        rcases hk with hk | hk
        ·have := b2 k hk
         rw [hμ2] at this
         simp only; omega
        ·exact hk.2.2
       ·intro k hk; rw [he, hμ1]; exact hfr' k hk)
     have hlen : (es ++ ys).length = es.length + ys.length := List.length_append
     refine ⟨.slice (some ⟨c, o, none⟩) (es ++ ys).length cap, w', _, _, _, _, by rw [hcx, hlen]; exact hrun, hpass.1, ?_, hpass.2, g5⟩
     have hkl : (H.set t' AObj.dead ++ [AObj.tok]).length = H.length + 1 := by simp
     rw [hkl]
     obtain ⟨g, hg⟩ : ∃ g : Nat → Value, ∀ j v, (flat (es ++ ys))[j]? = some v → w'.cell? ⟨c, o + j, none⟩ = some (g j) ∧ (g j).oneCell' = true ∧ VR μ Z w H.length v (g j) := by
      refine ⟨fun j => (w'.cell? ⟨c, o + j, none⟩).getD default, fun j v hj => ?_⟩
      rw [hflat] at hj
      by_cases hjl : j < (flat es).length
      ·rw [List.getElem?_append_left hjl] at hj
       have e1 := q1 j v hj
       simp only [hlow (o + j) (by omega), e1, Option.getD_some]
       exact ⟨trivial, q5 j hjl, q3 j v hj⟩
      ·rw [List.getElem?_append_right (by omega)] at hj
       have hjb := (List.getElem?_eq_some_iff.1 hj).1
       obtain ⟨v', s1, s2, s3⟩ := hnv _ v hj
       have e1 : w'.cell? ⟨c, o + j, none⟩ = some v' := by
        rw [hcell', p3 _ (by omega), if_pos (by omega), ← s1]
        congr 1; omega
       simp only [e1, Option.getD_some]
       exact ⟨trivial, s2, s3⟩
     refine .dl te.size (es ++ ys) _ c o cap g hall (by omega) (fun j v hj => (hg j v hj).1) ?_ ?_ (fun j hj => (hg j _ (List.getElem?_eq_getElem hj)).2.1) ?_
     ·intro j hj
      rw [hflat, List.length_append] at hj
      by_cases hjl : j < (flat es).length
      ·exact .inl (q2 j hjl)
      ·exact .inr ⟨rfl, by omega, by omega⟩
     ·intro j v hj
      have := ((hg j v hj).2.2).ev hpass.2
      rw [hkl] at this
      exact this
     ·refine ⟨by omega, ?_, h6, e2, N, ?_, r5⟩
      ·rw [ext_eq, hμ1, hlen]
      ·simp only [World.shape?, p1, p2, hN]
   ·exact grows (by omega)
end
end Go.Av
end
