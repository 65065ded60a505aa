/- the layer over the model, part 6 -/
import Derived.Lib.ConvBytes
import Derived.TacticsIn
import Derived.Test.YtahhhfgmcdajhaaA5
set_option autoImplicit false
set_option linter.unusedSimpArgs false
set_option linter.unusedVariables false
set_option linter.unnecessarySimpa false
section
set_option linter.unusedSimpArgs false
set_option linter.unusedVariables false
namespace Go.Av
open Go.RowKit

/-- What a call of a loop's body (yield) comes to. -/
abbrev Hand := Nat → List AV → AHeap → (AV → AHeap → Prop) → Prop

def YSound (P : Program) (B : Nat) (w0 : World) (Y : Hand) : Prop :=
 ∀ l args H K, Y l args H K → ∀ μ Z w cargs, R B w0 μ Z H w → VRs μ Z w H.length args cargs → l < H.length →
  ∃ fn tmps assign body, (Instr.yield (μ l).1 cargs).run P w = .ok (.round (μ l).1 fn tmps assign body) w ∧
   RoundIn (FW none) 0 P (μ l).1 fn tmps assign body w fun e w' => ∃ v cv μ' Z' H', e = .returned cv ∧ R B w0 μ' Z' H' w' ∧ VR μ' Z' w' H'.length v cv ∧ Ev μ Z H w μ' Z' H' w' ∧ K v H'

def noY : Hand := fun _ _ _ _ => False
theorem noY_sound {P : Program} {B : Nat} {w0 : World} : YSound P B w0 noY := fun _ _ _ _ h => h.elim

def partsOk (sz : Nat) (len : Nat) (parts : List (Nat × AV)) : Prop := ∀ p, p ∈ parts → p.1 < len ∧ p.2.cells.length = sz ∧ p.2.cells.all AV.one = true ∧ p.2 ≠ .undef
def setAll (l : List AV) (parts : List (Nat × AV)) : List AV := parts.foldl (fun l p => l.set p.1 p.2) l

/-- A string's bytes, as a list. -/
def bytesOf (b : List UInt8) : List Int := b.map fun c => (c.toNat : Int)
def isU8 : TK → Bool
 | .int .u8 => true
 | _ => false
/-- The bytes of a string, in an array of their own that nobody writes. -/
def bytesA (P : Program) (s d : TypeId) (x : AV) : Option AV :=
 match tyA P s, tyA P d with
 | some _, some j => match j.kind, x with
  | .slice e, .str b => if isK P e isU8 then some (.dl 1 (List.map (AV.int .u8) (bytesOf b)) .none) else none
  | _, _ => none
 | _, _ => none
/-- a store: of the value, or of one that says less of it -/
def StoE (P : Program) (t : TypeId) (ad v : AV) (H : AHeap) (K : AV → AHeap → Prop) : Prop :=
 ∃ x, wkD x v ∧ ∃ id off cs te, ad = .ptr id off ∧ H[id]? = some (.cells cs) ∧ tyA P t = some te ∧ x.cells.length = te.size ∧ off + te.size ≤ cs.length ∧ x.cells.all AV.one = true ∧ x ≠ .undef ∧
  K .undef (H.set id (.cells (putA cs off x.cells)))
/-- make: a block of one's own, of zeros. -/
def MakeQ (P : Program) (t : TypeId) (x y : AV) (H : AHeap) (K : AV → AHeap → Prop) : Prop :=
 ∃ (ti : TyA) (e : TypeId) (te : TyA) (z : AV) (k k' : IntKind) (n : Nat), tyA P t = some ti ∧ ti.kind = .slice e ∧ tyA P e = some te ∧ te.zero = some z ∧ z.cells.length = te.size ∧ z.cells.all AV.one = true ∧ 0 < te.size ∧ x = .int k ((n : Nat) : Int) ∧ y = .int k' ((n : Nat) : Int) ∧
  n * te.bytes ≤ 140737488355328 ∧ n ≤ 4611686018427387904 ∧ (n = 0 → K (.dl te.size [] .full) H) ∧ (0 < n → K (.sl te.size H.length 0 n) (H ++ [.cells (flat (List.replicate n z))]))
/-- What an operation that writes may come to. -/
def AEff (P : Program) (B : Nat) (w0 : World) (Y : Hand) (a : List AV) (H : AHeap) (op : Op) (K : AV → AHeap → Prop) : Prop :=
 match op with
 | .alloc e => ∃ te z, tyA P e = some te ∧ te.zero = some z ∧ z.cells.all AV.one = true ∧ K (.ptr H.length 0) (H ++ [.cells z.cells])
 | .box _ x => (ev a x).cells.all AV.one = true ∧ ev a x ≠ .undef ∧ K (.ptr H.length 0) (H ++ [.cells (ev a x).cells])
 | .buildSlice t len parts => ∃ ti e te z, tyA P t = some ti ∧ ti.kind = .slice e ∧ tyA P e = some te ∧ te.zero = some z ∧ z.cells.length = te.size ∧ z.cells.all AV.one = true ∧ len * te.size ≤ 16777216 ∧ 0 < te.size ∧
   partsOk te.size len (parts.toList.map fun p => (p.1, ev a p.2)) ∧ K (.dl te.size (setAll (List.replicate len z) (parts.toList.map fun p => (p.1, ev a p.2))) .full) H
 | .store t addr x => StoE P t (ev a addr) (ev a x) H K
 | .call c => match c.callee with
  | .value f => match ev a f with
   | .fn (.func k) first cap => ACall P B w0 k (first ++ c.args.toList.map (ev a) ++ cap) H K
   | .fn (.yield l) [] [] => Y l (c.args.toList.map (ev a)) H K
   | _ => False
  | .builtin .append => match c.args.toList, c.argTypes.toList with
   | [x, y], [t, t2] => ∃ y', wkD y' (ev a y) ∧ (AApp P t t2 (ev a x) y' H K ∨ AppM P t t2 (ev a x) y' H K ∨ AppC P t t2 (ev a x) y' H K ∨ AppO P t t2 (ev a x) y' H K)
   | _, _ => False
  | .builtin .clear => match c.args.toList, c.argTypes.toList with
   | [x], [t] => Clr P t (ev a x) H K
   | _, _ => False
  | .builtin .delete => match c.args.toList, c.argTypes.toList with
   | [x, y], [t, _] => DelQ P t (ev a x) (ev a y) H K
   | _, _ => False
  | .builtin .copy => match c.args.toList, c.argTypes.toList with
   | [x, y], [t, t2] => CpyQ P t t2 (ev a x) (ev a y) H K
   | _, _ => False
  | _ => False
 | .convert s d x => ∃ v, bytesA P s d (ev a x) = some v ∧ K v H
 | .makeSlice t l c => MakeQ P t (ev a l) (ev a c) H K
 | .binOp op t x (.const (.slice none 0 0)) _ => ∃ ti e ne, tyA P t = some ti ∧ ti.kind = .slice e ∧ isNe op = some ne ∧ NilQ ne (ev a x) H K
 | op => MOp P a H op K

def AOp (P : Program) (B : Nat) (w0 : World) (Y : Hand) (a : List AV) (H : AHeap) (op : Op) (K : AV → AHeap → Prop) : Prop :=
 match pureA P H a op with
 | some v => K v H
 | none => AEff P B w0 Y a H op K

def putD (a : List AV) (d : Option Tmp) (v : AV) : List AV :=
 match d with
 | some d => a.set d v
 | none => a

/-- Is a guarded operation carried out? -/
def wantA (ops : List Oper) (a : List AV) (g : Option (Nat × Bool)) : Option Bool :=
 match g with
 | none => some true
 | some (j, want) => match (ops[j]?).bind (·.dst) with
  | some d => match a.getD d .undef with
   | .bool b => some (b == want)
   | .tup [] => some false
   | _ => none
  | none => none

def AOps (P : Program) (B : Nat) (w0 : World) (Y : Hand) (ops : List Oper) : List Oper → (List AV → AHeap → Prop) → List AV → AHeap → Prop
 | [], K, a, H => K a H
 | o :: rest, K, a, H => match wantA ops a o.guard with
  | some b => (b = true → AOp P B w0 Y a H o.op fun v H' => AOps P B w0 Y ops rest K (putD a o.dst v) H') ∧ (b = false → AOps P B w0 Y ops rest K (putD a o.dst (.tup [])) H)
  | none => False

section
variable {P : Program} {B : Nat} {w0 : World} {rd : Option Nat} {a : List AV} {H : AHeap} {μ μ' : Nat → Nat × Nat} {Z Z' : Nat → Nat → Prop} {w w' : World} {n n' : Nat} {E0 : Nat} {ca : Act}
variable {x y i v : AV} {cx cy ci cv : Value} {t t2 ty e : TypeId} {Y : Hand}

theorem vrSkip : VR μ Z w n (.tup []) undef := .tup [] #[] rfl (fun _ => default) (fun j v hj => by simp at hj) (fun j v hj => by simp at hj)
theorem VRs.set (h : VRs μ Z w n a ca.tmps) (d : Option Tmp) (hv : VR μ Z w n v cv) : VRs μ Z w n (putD a d v) (ca.put d cv).tmps := by
 cases d with
 | none => exact h
 | some d =>
  refine ⟨by simp [putD, Act.put, h.1], fun j u hj => ?_⟩
  simp only [putD] at hj
  simp only [Act.put]
  by_cases hjd : d = j
  ·subst hjd
   have hlt : d < a.length := by have := (List.getElem?_eq_some_iff.1 hj).1; simpa using this
   rw [List.getElem?_set_self hlt] at hj
   cases hj
   have : d < ca.tmps.size := by rw [← h.1]; exact hlt
   exact ⟨cv, by simp [Array.getElem?_setIfInBounds, this], hv⟩
  ·rw [List.getElem?_set, if_neg hjd] at hj
   obtain ⟨u', k1, k2⟩ := h.2 j u hj
   exact ⟨u', by rw [Array.getElem?_setIfInBounds, if_neg hjd]; exact k1, k2⟩

theorem AR.put (h : AR E0 μ Z w n a ca) (d : Option Tmp) (hv : VR μ Z w n v cv) : AR E0 μ Z w n (putD a d v) (ca.put d cv) :=
 ⟨h.tmps.set d hv, h.e0, by cases d <;> exact h.marks⟩

theorem setAll_spec {sz : Nat} : ∀ {parts : List (Nat × AV)} {cparts : List (Nat × Value)} {l : List AV} {vs : Array Value}, (∀ e, e ∈ l → e.cells.length = sz) → partsOk sz l.length parts → PRs μ Z w n parts cparts → VRs μ Z w n (flat l) vs → (flat l).all AV.one = true →
  ∃ rs, Instr.fill (fun i => some (i * sz, sz)) vs cparts = some rs ∧ VRs μ Z w n (flat (setAll l parts)) rs ∧ (setAll l parts).length = l.length ∧ (∀ e, e ∈ setAll l parts → e.cells.length = sz) ∧ (flat (setAll l parts)).all AV.one = true
 | [], [], l, vs, hs, _, _, hv, h1 => ⟨vs, rfl, hv, rfl, hs, h1⟩
 | (i, v) :: parts, (j, cv) :: cparts, l, vs, hs, hp, hpr, hv, h1 => by
  obtain ⟨rfl, hvv, hrest⟩ := hpr
  obtain ⟨p1, p2, p3, p4⟩ := hp (i, v) (by simp)
  simp only at p1 p2 p3 p4
  have hl := flat_length hs
  have hle : (i + 1) * sz ≤ l.length * sz := Nat.mul_le_mul_right _ p1
  have hle' : i * sz + sz ≤ (flat l).length := by rw [hl]; rw [Nat.add_mul] at hle; omega
  have hset : l.set i v = l.take i ++ v :: l.drop (i + 1) := by rw [List.set_eq_take_append_cons_drop, if_pos p1]
  have hflat : flat (l.set i v) = (flat l).take (i * sz) ++ v.cells ++ (flat l).drop (i * sz + sz) := by
   rw [hset, flat_append, flat_cons, flat_take i hs, flat_drop (i + 1) hs, Nat.add_mul, Nat.one_mul, List.append_assoc]
  have hs' : ∀ e, e ∈ l.set i v → e.cells.length = sz := by
   intro e he
   rcases List.mem_or_eq_of_mem_set he with he | he
   ·exact hs e he
   ·rw [he]; exact p2
  have hone : (flat (l.set i v)).all AV.one = true := by
   rw [hflat, List.all_append, List.all_append]
   simp only [Bool.and_eq_true]
   refine ⟨⟨?_, p3⟩, ?_⟩
   ·exact List.all_eq_true.2 fun x hx => List.all_eq_true.1 h1 x (List.mem_of_mem_take hx)
   ·exact List.all_eq_true.2 fun x hx => List.all_eq_true.1 h1 x (List.mem_of_mem_drop hx)
  have hf1 : fillA (fun i => some (i * sz, sz)) (flat l) [(i, v)] = some (flat (l.set i v)) := by
   rw [hflat]
   simp only [fillA]
   cases v <;> first
    | exact absurd rfl p4
    | (simp only [p2, true_and]; rw [if_pos hle'])
  obtain ⟨rs1, r1, r2⟩ := fill_run (μ := μ) (Z := Z) (w := w) (n := n) (pl := fun i => some (i * sz, sz)) (pl' := fun i => some (i * sz, sz)) (fun _ _ h => h) (cparts := [(i, cv)]) hf1 ⟨rfl, hvv, trivial⟩ hv
  obtain ⟨rs, s1, s2, s3, s4, s5⟩ := setAll_spec (l := l.set i v) hs' (by rw [List.length_set]; exact fun p hp' => hp p (by simp [hp'])) hrest r2 hone
  refine ⟨rs, ?_, s2, s3.trans List.length_set, s4, s5⟩
  simp only [Instr.fill] at r1 ⊢
  split at r1
  ·cases r1
  ·rename_i hc
   rw [if_neg hc]
   cases r1
   exact s1
 | [], _ :: _, _, _, _, _, h, _, _ => h.elim
 | _ :: _, [], _, _, _, _, h, _, _ => h.elim

theorem cells_one (h : VR μ Z w n x cx) (h1 : x.cells.all AV.one = true) (hne : x ≠ .undef) : CR μ Z w n x.cells cx.cells 0 := CR.of_vrs (h.cells hne) h1

theorem zero_vrs {te : TyA} {zv : Value} {z : AV} (hz : z = ofVal zv) : VRs μ Z w n z.cells zv.cells := by
 subst hz
 have hv : VR μ Z w n (ofVal zv) zv := VR.ofVal zv
 by_cases h : ofVal zv = .undef
 ·rw [h]
  have hs : zv.cells.size = 1 := by rw [← ofVal_cells, h]; rfl
  refine ⟨by rw [hs]; rfl, fun j v hj => ?_⟩
  cases j with
  | zero => simp [AV.cells] at hj; subst hj; exact ⟨zv.cells[0], by simp [hs], .undef _⟩
  | succ j => simp [AV.cells] at hj
 ·exact hv.cells h

theorem replicate_vrs {z : AV} {zv : Value} {len sz : Nat} (hsz : z.cells.length = sz) (hpos : 0 < sz) (hz : VRs μ Z w n z.cells zv.cells) :
  VRs μ Z w n (flat (List.replicate len z)) ((Array.range (len * sz)).map (fun k => zv.cells[k % zv.cells.size]!)) := by
 have hs : ∀ e, e ∈ List.replicate len z → e.cells.length = sz := fun e he => by rw [List.eq_of_mem_replicate he]; exact hsz
 have hl := flat_length hs
 rw [List.length_replicate] at hl
 refine ⟨by simp [hl], fun j v hj => ?_⟩
 have hlt : j < len * sz := by rw [← hl]; exact (List.getElem?_eq_some_iff.1 hj).1
 have hdiv : j / sz < len := (Nat.div_lt_iff_lt_mul hpos).2 hlt
 have hmod : j % sz < sz := Nat.mod_lt _ hpos
 have e1 : j = j / sz * sz + j % sz := by rw [Nat.mul_comm]; exact (Nat.div_add_mod j sz).symm
 rw [e1, flat_get hs (by simpa using hdiv) hmod] at hj
 have e2 : (List.replicate len z).getD (j / sz) .undef = z := by simp [List.getD, hdiv]
 rw [e2] at hj
 obtain ⟨u, k1, k2⟩ := hz.2 _ _ hj
 have hzs : zv.cells.size = sz := by rw [← hsz]; exact hz.1.symm
 refine ⟨u, ?_, k2⟩
 have : j % sz < zv.cells.size := by omega
 simp only [Array.getElem?_map, Array.getElem?_range, hlt, if_true, Option.map_some, hzs]
 rw [← k1, Array.getElem?_eq_getElem this]
 congr 1
 exact getElem!_pos zv.cells _ this

theorem frost_vr {sz : Nat} {es : List AV} {ccs : Array Value} (hs : ∀ e, e ∈ es → e.cells.length = sz) (hv : VRs μ Z w n (flat es) ccs) (h1 : (flat es).all AV.one = true) (e : TypeId) (hzl : ∀ c o, Z c o → c < w.heap.size) :
  VR μ (fun c o => Z c o ∨ (c = w.heap.size ∧ o < ccs.size)) (w.alloc (.cells ccs e)) n (.dl sz es .full) (.slice (some ⟨w.heap.size, 0, none⟩) es.length es.length) := by
 obtain ⟨f, f1, f2⟩ := hv.skolem
 have hnew : (w.alloc (.cells ccs e)).heap[w.heap.size]? = some (.cells ccs e (0, 0)) := heap_alloc_new w _
 refine .dl sz es .full w.heap.size 0 es.length f hs (Nat.le_refl _) ?_ ?_ ?_ ?_ rfl
 ·intro j v hj
  rw [cell_of_row _ _ _ _ e (0, 0) hnew, Nat.zero_add]
  exact f1 j v hj
 ·intro j hj; exact .inr ⟨rfl, by rw [← hv.1]; omega⟩
 ·intro j v hj
  exact (f2 j v hj).mono (Nat.le_refl _) (fun _ _ => rfl) (fun _ _ h => .inl h) (fun c o h => cell_alloc w _ c o (hzl c o h)) (fun c hc => shape_alloc w _ c hc)
 ·intro j hj
  exact (f2 j _ (List.getElem?_eq_getElem hj)).one (List.all_eq_true.1 h1 _ (List.getElem_mem hj))

/-- What the model's own run of an operation may lead to. -/
def Lands (P : Program) (B : Nat) (w0 : World) (μ : Nat → Nat × Nat) (Z : Nat → Nat → Prop) (H : AHeap) (w : World) (K : AV → AHeap → Prop) (F : Fence) (r : Result Next) : Prop :=
 (∃ v cv μ' Z' H' w', (r = .ok (.value cv) w' ∨ (r = .ok .skip w' ∧ cv = undef)) ∧ R B w0 μ' Z' H' w' ∧ VR μ' Z' w' H'.length v cv ∧ Ev μ Z H w μ' Z' H' w' ∧ K v H') ∨
 (∃ k args, r = .ok (.enter k args) w ∧ CallsIn F 0 P k args w fun e w' => ∃ v cv μ' Z' H', e = .returned cv ∧ R B w0 μ' Z' H' w' ∧ VR μ' Z' w' H'.length v cv ∧ Ev μ Z H w μ' Z' H' w' ∧ K v H') ∨
 (∃ l fn tmps assign body, r = .ok (.round l fn tmps assign body) w ∧ RoundIn F 0 P l fn tmps assign body w fun e w' => ∃ v cv μ' Z' H', e = .returned cv ∧ R B w0 μ' Z' H' w' ∧ VR μ' Z' w' H'.length v cv ∧ Ev μ Z H w μ' Z' H' w' ∧ K v H')

theorem VRs.append {l1 l2 : List AV} {v1 v2 : Array Value} (h1 : VRs μ Z w n l1 v1) (h2 : VRs μ Z w n l2 v2) : VRs μ Z w n (l1 ++ l2) (v1 ++ v2) := by
 refine ⟨by simp [h1.1, h2.1], fun j v hj => ?_⟩
 by_cases hlt : j < l1.length
 ·rw [List.getElem?_append_left hlt] at hj
  obtain ⟨u, k1, k2⟩ := h1.2 j v hj
  exact ⟨u, by rw [Array.getElem?_append_left (by rw [← h1.1]; exact hlt)]; exact k1, k2⟩
 ·rw [List.getElem?_append_right (by omega)] at hj
  obtain ⟨u, k1, k2⟩ := h2.2 _ v hj
  exact ⟨u, by rw [Array.getElem?_append_right (by rw [← h1.1]; omega), ← h1.1]; exact k1, k2⟩

theorem appC_sound {t t2 ty : TypeId} {x y : AV} {cx cy : Value} (K : AV → AHeap → Prop) (h : AppC P t t2 x y H K) (hR : R B w0 μ Z H w) (hx : VR μ Z w H.length x cx) (hy : VR μ Z w H.length y cy) :
  ∃ cv w' v μ' Z' H', (Builtin.append_ #[t, t2] ty #[cx, cy]).run P w = .ok cv w' ∧ R B w0 μ' Z' H' w' ∧ VR μ' Z' w' H'.length v cv ∧ Ev μ Z H w μ' Z' H' w' ∧ K v H' := by
 obtain ⟨ti, e, te, z, i2, k, k2, m, sz, h1, h2, h3, h4, h5, h5', h6, h7, h7', rfl, rfl, hm0, h8, h9, h10⟩ := h
 have hu := kind_slice h1 h2
 have hu2 := kind_int h7 h7'
 obtain ⟨inf, zv, k1, k2', k3, _⟩ := zero_some (w := w) h3 h4
 have hzsz : zv.cells.size = te.size := by rw [← h5, k3, ofVal_cells]
 have hbytes : inf.bytes = te.bytes := by
  obtain ⟨inf', d, q1, _, _, _, q2, _⟩ := tyA_spec h3
  rw [k1] at q1; cases q1; exact q2.symm
 obtain ⟨A, rfl⟩ : ∃ A, cx = .slice A 0 0 := by
  generalize hL : ([] : List AV) = L at hx
  cases hx with
  | dl0 _ _ A cap q1 q2 => exact ⟨A, by rw [q1 rfl]⟩
  | dl _ _ _ c o cap f hs hc q1 q2 q3 q5 ht =>
   subst hL
   have : cap = 0 := ht
   subst this
   exact ⟨_, rfl⟩
 cases hy
 have hw : IntKind.i64.wrap (m : Int) = (m : Int) := by
  unfold IntKind.wrap
  simp only [IntKind.bits, IntKind.signed, Bool.true_and, Nat.reduceSub, Int.reducePow, ge_iff_le]
  split
  ·rename_i h; try simp only [decide_eq_true_eq] at h
   omega
  ·rename_i h; try simp only [decide_eq_true_eq] at h
   omega
 have hsz := run_sizeOf' (w := w) h3
 have hsz2 := run_sizeOf' (w := w.drew) h3
 have hinf1 : (typeInfo e).run P w = .ok inf w := run_typeInfo' k1
 have hinf2 : (typeInfo e).run P w.drew = .ok inf w.drew := run_typeInfo' k1
 have hzv : (zeroValue e).run P w.drew = .ok zv w.drew := by simp [zeroValue, hinf2, k2']
 have h48 : ¬ (281474976710656 < (m : Int) * (inf.bytes : Int)) := by
  have : ((m * inf.bytes : Nat) : Int) ≤ ((140737488355328 : Nat) : Int) := Int.ofNat_le.2 (by rw [hbytes]; exact h8)
  rw [Int.natCast_mul] at this; omega
 have h48' : ¬ (281474976710656 < Builtin.nextslicecap m 0 * inf.bytes) := by
  have := growslice_fits (need := m) (old := 0) (bytes := inf.bytes) hm0 (by rw [hbytes]; exact h8); omega
 have h63 : ¬ (9223372036854775807 < (m : Int)) := by omega
 have hms : ¬ (m = 0) := by omega
 have hrun : (Builtin.append_ #[t, t2] ty #[.slice A 0 0, .int k2 (m : Int)]).run P w = .ok (.slice (some ⟨w.heap.size, 0, none⟩) m (grownCap w m 0 e))
   (w.drew.alloc (.cells (Builtin.zeroCells zv.cells m ++ Builtin.zeroCells zv.cells (grownCap w m 0 e - m)) e)) := by
  have hfc : ∀ w' : World, (Builtin.firstCells te.size 0 (.slice A 0 0)).run P w' = .ok #[] w' := by
   intro w'; cases A <;> simp [Builtin.firstCells, loadCells, loadCellsFrom]
  have hneg : ¬ ((m : Int) < 0) := by omega
  have hmm : ¬ (m * te.size = 0) := by
   intro h; rcases Nat.mul_eq_zero.1 h with h | h <;> omega
  have hmm' : ¬ (m = 0 ∨ te.size = 0) := by omega
  simp [Builtin.append_, run_und hu, run_und hu2, hsz, hsz2, hinf1, hinf2, hzv, asInt, asIntOf, hw, hneg, h48, h48', h63, hms, hfc, hmm', Question.forced, newRow, grownCap]
  exact fun h => absurd h hmm
 have hcapg := grownCap_ge w m 0 e
 have hrep := replicate_vrs (μ := μ) (Z := Z) (w := w) (n := H.length) (len := m) h5 h6 (zero_vrs (te := te) k3)
 have hnl : (Builtin.zeroCells zv.cells m).size = m * te.size := by rw [zeroCells_size, hzsz]
 have hone : ∀ v, v ∈ flat (List.replicate m z) → v.one = true := by
  intro v hv
  simp only [flat, List.mem_flatMap] at hv
  obtain ⟨y, hy1, hy2⟩ := hv
  rw [List.eq_of_mem_replicate hy1] at hy2
  exact List.all_eq_true.1 h5' v hy2
 have hnv : ∀ (j : Nat) (v : AV), (flat (List.replicate m z))[j]? = some v → ∃ v', (Builtin.zeroCells zv.cells m)[j]? = some v' ∧ v'.oneCell' = true ∧ VR μ Z w H.length v v' := by
  intro j v hj
  obtain ⟨v', q1, q2⟩ := hrep.2 j v hj
  refine ⟨v', ?_, q2.one (hone v (List.mem_of_getElem? hj)), q2⟩
  rw [← q1]; unfold Builtin.zeroCells; rw [hzsz]
 have hfl : (flat (List.replicate m z)).length = m * te.size := by
  have := flat_length (sz := te.size) (l := List.replicate m z) (fun e he => by rw [List.eq_of_mem_replicate he]; exact h5)
  rwa [List.length_replicate] at this
 generalize hzs : Builtin.zeroCells zv.cells (grownCap w m 0 e - m) = zs at hrun
 have hzsl : zs.size = (grownCap w m 0 e - m) * te.size := by rw [← hzs, zeroCells_size, hzsz]
 generalize hnews : Builtin.zeroCells zv.cells m = news at hrun hnl hnv
 have hnew : (w.drew.alloc (.cells (news ++ zs) e)).heap[w.drew.heap.size]? = some (.cells (news ++ zs) e (0, 0)) := heap_alloc_new w.drew _
 have hpush := (hR.drew).push (.cells (flat (List.replicate m z))) (.cells (news ++ zs) e) rfl (by
  intro μ'' hm' he
  refine ⟨by rw [he]; exact hR.hB, by rw [he]; exact fun o ho => by have := hR.drew.zlt _ _ ho; simp only at this; omega, _, e, (0, 0), by rw [he]; exact hnew, ?_, by rw [he]; simp; omega, ?_⟩
  ·intro o _
   rw [he]
   simp only [World.frozen?, hnew]
   simp
  ·intro j v hj
   rw [he]
   obtain ⟨v', q1, q2, q3⟩ := hnv j v hj
   have hjl := (Array.getElem?_eq_some_iff.1 q1).1
   refine ⟨v', by rw [Nat.zero_add, Array.getElem?_append_left hjl]; exact q1, q2, ?_⟩
   exact q3.mono (Nat.le_succ _) hm' (fun _ _ h => h) (fun c o hz => cell_alloc w.drew _ c o (hR.drew.zlt c o hz)) (fun c hc => shape_alloc w.drew _ c hc))
 refine ⟨_, _, .sl te.size H.length 0 m, _, _, _, hrun, ?_, ?_, (Ev.drew (μ := μ) (Z := Z) (H := H) (w := w)).trans hpush.2, h10⟩
 ·have := hpush.1
  simpa using this
 ·rw [List.length_append]
  have hsl := VR.sl (μ := ext μ H.length (w.drew.heap.size, 0)) (Z := Z) (w := w.drew.alloc (.cells (news ++ zs) e)) (n := H.length + 1) te.size H.length 0 m (grownCap w m 0 e) (by omega) hcapg h6 e (news ++ zs).size
   (by rw [ext_eq]; simp only [World.shape?, hnew]) (by
    rw [ext_eq]
    simp only [Array.size_append, hzsl, hnl, ← Nat.add_mul]
    have : m + (grownCap w m 0 e - m) = grownCap w m 0 e := by omega
    rw [this]; omega)
  rw [ext_eq] at hsl
  simpa using hsl

/-- A new block that nobody writes any more. -/
theorem R.newZ {w' : World} (hR : R B w0 μ Z H w) (hb : Below B w w') (hsz : w'.heap.size = w.heap.size + 1) (hold : ∀ j : Nat, j < w.heap.size → w'.heap[j]? = w.heap[j]?) (m : Nat) :
  R B w0 μ (fun c k => Z c k ∨ (c = w.heap.size ∧ k < m)) H w' ∧ Ev μ Z H w μ (fun c k => Z c k ∨ (c = w.heap.size ∧ k < m)) H w' := by
 have hcell : ∀ c o, Z c o → w'.cell? ⟨c, o, none⟩ = w.cell? ⟨c, o, none⟩ := fun c o hz => World.cell?_of_block (a := ⟨c, o, none⟩) (hold c (hR.zlt c o hz))
 have hshape : ∀ c, c < w.heap.size → w'.shape? c = w.shape? c := fun c hc => by simp only [World.shape?, hold c hc]
 refine ⟨⟨hR.below.trans hb, by have := hR.hB; omega, fun c o h => ?_, fun id o hid => ?_, hR.inj⟩, ?_⟩
 ·rcases h with h | ⟨rfl, _⟩
  ·have := hR.zlt c o h; omega
  ·omega
 ·have hlt := (List.getElem?_eq_some_iff.1 hid).1
  by_cases ha : o.alive = true
  ·have hl := hR.lt hid ha
   exact OR.keep (hR.obj id o hid) hlt (Nat.le_refl _) (fun _ _ => rfl) (fun _ _ h => .inl h) hcell hshape (by omega) (fun _ => hold _ hl) (fun off h => by
    rcases h with h | ⟨e, _⟩
    ·exact h
    ·omega)
  ·cases o <;> first | trivial | exact absurd rfl ha
 ·exact ⟨Nat.le_refl _, fun _ _ => rfl, fun _ _ h => .inl h, hcell, hshape, by omega, fun c hc _ => hold c hc, fun id o h ha => .inr ⟨id, o, h, ha, rfl⟩, fun c o h => h.imp id (fun h => .inl (by omega))⟩

theorem bytes_sound {s d : TypeId} {x v : AV} {cx : Value} (h : bytesA P s d x = some v) (hR : R B w0 μ Z H w) (hx : VR μ Z w H.length x cx) :
  ∃ cv w' Z', (convert s d cx).run P w = .ok cv w' ∧ R B w0 μ Z' H w' ∧ VR μ Z' w' H.length v cv ∧ Ev μ Z H w μ Z' H w' := by
 unfold bytesA at h
 split at h
 ·rename_i i j hs hd
  split at h
  ·rename_i e b hj
   split at h
   ·rename_i hk
    cases h
    cases hx
    obtain ⟨te, hte, hk2⟩ := isK_spec hk
    have hu8 : te.kind = .int .u8 := by
     revert hk2
     cases te.kind with
     | int k => cases k <;> intro h <;> first | rfl | cases h
     | _ => intro h; cases h
    obtain ⟨_, du, _, q2, _⟩ := tyA_spec hs
    have hrun := Lib.run_convert_string_bytes (P := P) w s d e ⟨b.toArray⟩ q2 (kind_slice hd hj) (kind_int hte hu8)
    have hsize : (⟨b.toArray⟩ : ByteArray).size = b.length := by simp [ByteArray.size]
    rw [hsize] at hrun
    obtain ⟨r1, r2⟩ := hR.newZ (w' := Lib.bytesWorld w e ⟨b.toArray⟩) ⟨rfl, rfl, rfl, by rw [Lib.bytesWorld_size]; omega, fun k hk => Lib.bytesWorld_at_old w e _ k (by have := hR.hB; omega)⟩ (Lib.bytesWorld_size w e _) (fun k hk => Lib.bytesWorld_at_old w e _ k hk) b.length
    refine ⟨_, _, _, hrun, r1, ?_, r2⟩
    have hfl : flat (List.map (AV.int .u8) (bytesOf b)) = List.map (AV.int .u8) (bytesOf b) := flat_ints .u8 _
    have hlen : (List.map (AV.int .u8) (bytesOf b)).length = b.length := by simp [bytesOf]
    have key := VR.dl (μ := μ) (Z := fun c k => Z c k ∨ (c = w.heap.size ∧ k < b.length)) (w := Lib.bytesWorld w e ⟨b.toArray⟩) (n := H.length) 1 (List.map (AV.int .u8) (bytesOf b)) .none w.heap.size 0 (grownCap w b.length 0 e)
     (fun j => .int .u8 ((b.getD j 0).toNat : Int)) (fun x hx => by obtain ⟨y, _, rfl⟩ := List.mem_map.1 hx; rfl) (by rw [hlen]; exact grownCap_ge w b.length 0 e)
     (fun j v hj => by
      rw [hfl] at hj
      have hjl := (List.getElem?_eq_some_iff.1 hj).1
      rw [hlen] at hjl
      have := Lib.bytesWorld_cell w e ⟨b.toArray⟩ j (by rw [hsize]; exact hjl)
      rw [Nat.zero_add]
      simpa using this)
     (fun j hj => by rw [hfl, hlen] at hj; exact .inr ⟨rfl, by omega⟩)
     (fun j v hj => by
      rw [hfl] at hj
      have hjl := (List.getElem?_eq_some_iff.1 hj).1
      rw [hlen] at hjl
      simp only [bytesOf, List.map_map, List.getElem?_map] at hj
      rw [List.getElem?_eq_getElem hjl] at hj
      simp at hj
      subst hj
      have e1 : b.getD j 0 = b[j] := by simp [List.getD, hjl]
      rw [e1]
      exact .int _ _)
     (fun j hj => rfl) trivial
    rw [hlen] at key
    exact key
   ·cases h
  ·cases h
 ·cases h

theorem makeQ_sound {t : TypeId} {x y : AV} {cx cy : Value} {K : AV → AHeap → Prop} (h : MakeQ P t x y H K) (hR : R B w0 μ Z H w) (hx : VR μ Z w H.length x cx) (hy : VR μ Z w H.length y cy) :
  ∃ cv w' v μ' Z' H', (Instr.makeSlice t cx cy).run P w = .ok cv w' ∧ R B w0 μ' Z' H' w' ∧ VR μ' Z' w' H'.length v cv ∧ Ev μ Z H w μ' Z' H' w' ∧ K v H' := by
 obtain ⟨ti, e, te, z, k, k', m, h1, h2, h3, h4, h5, h5', h6, rfl, rfl, h8, h9, hK0, hK1⟩ := h
 have hu := kind_slice h1 h2
 obtain ⟨inf, zv, k1, k2', k3, _⟩ := zero_some (w := w) h3 h4
 have hzsz : zv.cells.size = te.size := by rw [← h5, k3, ofVal_cells]
 have hbytes : inf.bytes = te.bytes := by
  obtain ⟨inf', d, q1, _, _, _, q2, _⟩ := tyA_spec h3
  rw [k1] at q1; cases q1; exact q2.symm
 cases hx
 cases hy
 have hw : IntKind.i64.wrap (m : Int) = (m : Int) := by
  unfold IntKind.wrap
  simp only [IntKind.bits, IntKind.signed, Bool.true_and, Nat.reduceSub, Int.reducePow, ge_iff_le]
  split
  ·rename_i h; try simp only [decide_eq_true_eq] at h
   omega
  ·rename_i h; try simp only [decide_eq_true_eq] at h
   omega
 have hsz := run_sizeOf' (w := w) h3
 have hinf1 : (typeInfo e).run P w = .ok inf w := run_typeInfo' k1
 have hzv : (zeroValue e).run P w = .ok zv w := by simp [zeroValue, hinf1, k2']
 have hneg : ¬ ((m : Int) < 0) := by omega
 have h48 : ¬ (281474976710656 < (inf.bytes : Int) * (m : Int)) := by
  have : ((m * inf.bytes : Nat) : Int) ≤ ((140737488355328 : Nat) : Int) := Int.ofNat_le.2 (by rw [hbytes]; exact h8)
  rw [Int.natCast_mul, Int.mul_comm] at this; omega
 have hroom : ¬ (roomBytes < m * inf.bytes) := by
  have : roomBytes = 140737488355328 := by decide
  rw [this, hbytes]; omega
 generalize hcs : ((Array.range (m * te.size)).map fun k => (if m * te.size = 0 then (#[] : Array Value) else zv.cells)[k % (if m * te.size = 0 then (#[] : Array Value) else zv.cells).size]!) = cs
 have hrun : (Instr.makeSlice t (.int k (m : Int)) (.int k' (m : Int))).run P w = .ok (.slice (some ⟨w.heap.size, 0, none⟩) m m) (w.alloc (.cells cs e)) := by
  by_cases h0 : m * te.size = 0
  ·rw [← hcs]
   simp [Instr.makeSlice, run_und hu, hsz, hinf1, hzv, asInt, asIntOf, hw, hneg, h48, h0, newRow, askRoom, hroom]
  ·rw [← hcs]
   simp [Instr.makeSlice, run_und hu, hsz, hinf1, hzv, asInt, asIntOf, hw, hneg, h48, h0, newRow, askRoom, hroom]
 by_cases hm : m = 0
 ·subst hm
  obtain ⟨r1, r2⟩ := hR.newZ (w' := w.alloc (.cells cs e)) ((Below.refl _ w).alloc hR.hB _) (by simp) (fun j hj => Below.heap_alloc w _ j hj) 0
  exact ⟨_, _, .dl te.size [] .full, _, _, _, hrun, r1, .dl0 _ _ _ _ (fun _ => rfl) (fun _ q => by cases q), r2, hK0 rfl⟩
 ·have hne : ¬ (m * te.size = 0) := by
   intro h; rcases Nat.mul_eq_zero.1 h with h | h <;> omega
  simp only [hne, if_false] at hcs
  have hrep := replicate_vrs (μ := μ) (Z := Z) (w := w) (n := H.length) (len := m) h5 h6 (zero_vrs (te := te) k3)
  rw [hcs] at hrep
  have hone : ∀ v, v ∈ flat (List.replicate m z) → v.one = true := by
   intro v hv
   simp only [flat, List.mem_flatMap] at hv
   obtain ⟨y, hy1, hy2⟩ := hv
   rw [List.eq_of_mem_replicate hy1] at hy2
   exact List.all_eq_true.1 h5' v hy2
  have hfl : (flat (List.replicate m z)).length = m * te.size := by
   have := flat_length (sz := te.size) (l := List.replicate m z) (fun e he => by rw [List.eq_of_mem_replicate he]; exact h5)
   rwa [List.length_replicate] at this
  have hcsz : cs.size = m * te.size := by rw [← hrep.1, hfl]
  have hnew : (w.alloc (.cells cs e)).heap[w.heap.size]? = some (.cells cs e (0, 0)) := heap_alloc_new w _
  have hpush := hR.push (.cells (flat (List.replicate m z))) (.cells cs e) rfl (by
   intro μ'' hm' he
   refine ⟨by rw [he]; exact hR.hB, by rw [he]; exact fun o ho => by have := hR.zlt _ _ ho; simp only at this; omega, _, e, (0, 0), by rw [he]; exact hnew, ?_, by rw [he]; simp; omega, ?_⟩
   ·intro o _
    rw [he]
    simp only [World.frozen?, hnew]
    simp
   ·intro j v hj
    rw [he]
    obtain ⟨v', q1, q3⟩ := hrep.2 j v hj
    refine ⟨v', by rw [Nat.zero_add]; exact q1, q3.one (hone v (List.mem_of_getElem? hj)), ?_⟩
    exact q3.mono (Nat.le_succ _) hm' (fun _ _ h => h) (fun c o hz => cell_alloc w _ c o (hR.zlt c o hz)) (fun c hc => shape_alloc w _ c hc))
  refine ⟨_, _, .sl te.size H.length 0 m, _, _, _, hrun, hpush.1, ?_, hpush.2, hK1 (by omega)⟩
  rw [List.length_append]
  have hsl := VR.sl (μ := ext μ H.length (w.heap.size, 0)) (Z := Z) (w := w.alloc (.cells cs e)) (n := H.length + 1) te.size H.length 0 m m (by omega) (Nat.le_refl _) h6 e cs.size
   (by rw [ext_eq]; simp only [World.shape?, hnew]) (by rw [ext_eq]; simp only [hcsz]; omega)
  rw [ext_eq] at hsl
  simpa using hsl

theorem eff_sound {o : Oper} {K : AV → AHeap → Prop} (rd : Option Nat) (hY : YSound P B w0 Y) (h : AEff P B w0 Y a H o.op K) (hR : R B w0 μ Z H w) (he : ∀ x, VR μ Z w H.length (ev a x) (ca.eval x)) :
  Lands P B w0 μ Z H w K (FW rd) ((execOp ca.eval o).run P w) := by
 unfold AEff at h
 split at h
 ·-- alloc
  rename_i e ho
  obtain ⟨te, z, h1, h2, h3, h4⟩ := h
  obtain ⟨inf, zv, k1, k2, k3, k4⟩ := zero_some (w := w) h1 h2
  have hc : CR μ Z w H.length z.cells zv.cells 0 := CR.of_vrs (zero_vrs (te := te) k3) h3
  obtain ⟨r1, r2⟩ := new_cells hR e hc
  refine .inl ⟨_, .pointer (some ⟨w.heap.size, 0, none⟩), _, _, _, _, .inl ?_, r1, by rw [List.length_append]; exact new_ptr, r2, h4⟩
  simp [execOp, ho, Instr.alloc, k4, newVar, newRow]
 ·-- box
  rename_i e ox ho
  obtain ⟨h1, h2, h3⟩ := h
  have hc := cells_one (he ox) h1 h2
  obtain ⟨r1, r2⟩ := new_cells hR e hc
  refine .inl ⟨_, .pointer (some ⟨w.heap.size, 0, none⟩), _, _, _, _, .inl ?_, r1, by rw [List.length_append]; exact new_ptr, r2, h3⟩
  simp [execOp, ho, Instr.box, newVar, newRow]
 ·-- buildSlice
  rename_i ty len parts ho
  obtain ⟨ti, e, te, z, h1, h2, h3, h4, h5, h5', h6, h7, h8, h9⟩ := h
  have hu := kind_slice h1 h2
  obtain ⟨inf, zv, k1, k2, k3, k4⟩ := zero_some (w := w) h3 h4
  have hzv : VRs μ Z w H.length z.cells zv.cells := zero_vrs (te := te) k3
  have hrep := replicate_vrs (len := len) h5 h7 hzv
  have hs0 : ∀ e', e' ∈ List.replicate len z → e'.cells.length = te.size := fun e' he' => by rw [List.eq_of_mem_replicate he']; exact h5
  have hone0 : (flat (List.replicate len z)).all AV.one = true := by
   refine List.all_eq_true.2 fun x hx => ?_
   simp only [flat, List.mem_flatMap] at hx
   obtain ⟨y, hy1, hy2⟩ := hx
   rw [List.eq_of_mem_replicate hy1] at hy2
   exact List.all_eq_true.1 h5' x hy2
  obtain ⟨rs, s1, s2, s3, s4, s5⟩ := setAll_spec (parts := parts.toList.map fun p => (p.1, ev a p.2)) (cparts := (parts.map fun p => (p.1, ca.eval p.2)).toList) hs0 (by rw [List.length_replicate]; exact h8) (by simpa using prs_map he parts.toList) hrep hone0
  rw [List.length_replicate] at s3
  obtain ⟨r1, r2⟩ := hR.frost rs e
  have hvr := frost_vr (e := e) s4 s2 s5 hR.zlt
  rw [s3] at hvr
  refine .inl ⟨_, .slice (some ⟨w.heap.size, 0, none⟩) len len, _, _, _, _, .inl ?_, r1, hvr, r2, h9⟩
  have hlim : ¬ (16777216 < len * te.size) := by omega
  by_cases h0 : len * te.size = 0
  ·have hm : ∀ f : Nat → Value, (Array.range 0).map f = #[] := fun _ => by apply Array.ext'; simp
   rw [h0, hm] at s1
   simp only [Array.toList_map] at s1
   simp [execOp, ho, Instr.buildSlice, run_und hu, run_sizeOf' h3, h0, newRow, hm, s1]
  ·simp only [Array.toList_map] at s1
   simp [execOp, ho, Instr.buildSlice, run_und hu, run_sizeOf' h3, hlim, h0, newRow, k4, s1]
 ·-- store
  rename_i ty oa ox ho
  obtain ⟨xw, hxw, id, off, cs, te, h1, h2, h3, h4, h5, h6, h7, h8⟩ := h
  have hva := he oa
  rw [h1] at hva
  have hcv := ((he ox).weakD hxw).cells h7
  obtain ⟨g1, g2, g3⟩ := store_cells (P := P) hR h2 (off := off) (vs := xw.cells) (cvs := (ca.eval ox).cells.toList) (by simp [hcv.1]) (by omega)
   (fun j v hj => by obtain ⟨u, k1, k2⟩ := hcv.2 j v hj; exact ⟨u, by simpa using k1, k2⟩) h6
  refine .inl ⟨.undef, undef, _, _, _, _, .inr ⟨?_, rfl⟩, g2, .undef _, g3, h8⟩
  generalize hca : ca.eval oa = cp at hva
  cases hva
  have hsz : (ca.eval ox).cells.size = te.size := by rw [← hcv.1]; exact h4
  simp [execOp, ho, hca, Instr.storeAt, Instr.sureAddr, storeVar, run_sizeOf' h3, hsz, g1]
 ·rename_i c ho
  obtain ⟨callee, ⟨args⟩, ⟨tys⟩⟩ := c
  simp only at h
  cases callee with
  | invoke => exact h.elim
  | value f =>
   simp only at h
   have hf := he f
   have hargs := vrs_map he ⟨args⟩
   split at h
   ·rename_i k first cap hfv
    rw [hfv] at hf
    generalize hcf : ca.eval f = cf at hf
    cases hf with
    | fn _ _ _ v1 v2 hl1 hl2 g1 g2 q1 q2 q3 q4 =>
     have hv1 : VRs μ Z w H.length first v1 := ⟨hl1, fun j v hj => ⟨g1 j, q1 j v hj, q2 j v hj⟩⟩
     have hv2 : VRs μ Z w H.length cap v2 := ⟨hl2, fun j v hj => ⟨g2 j, q3 j v hj, q4 j v hj⟩⟩
     obtain ⟨hen, hcall⟩ := h
     have hcall := hcall μ Z w (v1 ++ (args.toArray.map ca.eval) ++ v2) hR ((hv1.append hargs).append hv2)
     refine .inr (.inl ⟨k, v1 ++ (args.toArray.map ca.eval) ++ v2, ?_, ⟨trivial, hcall.2⟩⟩)
     simp only [execOp, ho, resolve, hcf, Deferred.ofValue, Sem.run_bind, Sem.run_pure, Result.andThen_ok, invoke]
     exact hen _ w
   ·rename_i l hfv
    rw [hfv] at hf
    generalize hcf : ca.eval f = cf at hf
    have hlt : l < H.length ∧ cf = .func (.yield (μ l).1) #[] #[] := by
     cases hf with
     | yield _ hl => exact ⟨hl, rfl⟩
    obtain ⟨hl, rfl⟩ := hlt
    obtain ⟨fn, tmps, assign, body, hy, hr⟩ := hY l _ H K h μ Z w _ hR hargs hl
    refine .inr (.inr ⟨(μ l).1, fn, tmps, assign, body, ?_, ⟨trivial, hr.2⟩⟩)
    simp only [execOp, ho, resolve, hcf, Deferred.ofValue, Sem.run_bind, Sem.run_pure, Result.andThen_ok, invoke]
    simpa using hy
   ·exact h.elim
  | builtin b =>
   cases b <;> first
    | exact h.elim
    | skip
   ·simp only at h
    split at h
    ·rename_i ox oy ty ty2
     obtain ⟨cv, w', v, μ', Z', H', g1, g2, g3, g4, g5⟩ : ∃ cv w' v μ' Z' H', (Builtin.append_ #[ty, ty2] o.type #[ca.eval ox, ca.eval oy]).run P w = .ok cv w' ∧ R B w0 μ' Z' H' w' ∧ VR μ' Z' w' H'.length v cv ∧ Ev μ Z H w μ' Z' H' w' ∧ K v H' := by
      obtain ⟨y', hy', h⟩ := h
      rcases h with h | h | h | h
      ·exact app_sound (ty := o.type) K h hR (he ox) ((he oy).weakD hy')
      ·exact appM_sound (ty := o.type) K h hR (he ox) ((he oy).weakD hy')
      ·exact appC_sound (ty := o.type) K h hR (he ox) ((he oy).weakD hy')
      ·exact appO_sound (ty := o.type) K h hR (he ox) ((he oy).weakD hy')
     refine .inl ⟨v, cv, μ', Z', H', w', .inl ?_, g2, g3, g4, g5⟩
     simp only [execOp, ho, resolve, Sem.run_bind, Sem.run_pure, Result.andThen_ok, invoke, builtin, List.map_toArray, List.map_cons, List.map_nil, g1]
    ·exact h.elim
   ·simp only at h
    split at h
    ·rename_i ox ty
     obtain ⟨cv, w', v, H', g1, g2, g3, g4, g5⟩ := clr_sound (ty := o.type) K h hR (he ox)
     refine .inl ⟨v, cv, μ, Z, H', w', .inl ?_, g2, g3, g4, g5⟩
     simp only [execOp, ho, resolve, Sem.run_bind, Sem.run_pure, Result.andThen_ok, invoke, builtin, List.map_toArray, List.map_cons, List.map_nil, g1]
    ·exact h.elim
   ·simp only at h
    split at h
    ·rename_i ox oy ty ty2
     obtain ⟨cv, w', v, H', g1, g2, g3, g4, g5⟩ := cpy_sound (ty := o.type) h hR (he ox) (he oy)
     refine .inl ⟨v, cv, μ, Z, H', w', .inl ?_, g2, g3, g4, g5⟩
     simp only [execOp, ho, resolve, Sem.run_bind, Sem.run_pure, Result.andThen_ok, invoke, builtin, List.map_toArray, List.map_cons, List.map_nil, g1]
    ·exact h.elim
   ·simp only at h
    split at h
    ·rename_i ox oy ty ty2
     obtain ⟨cv, w', v, H', g1, g2, g3, g4, g5⟩ := del_sound (t2 := ty2) (ty := o.type) h hR (he ox) (he oy)
     refine .inl ⟨v, cv, μ, Z, H', w', .inl ?_, g2, g3, g4, g5⟩
     simp only [execOp, ho, resolve, Sem.run_bind, Sem.run_pure, Result.andThen_ok, invoke, builtin, List.map_toArray, List.map_cons, List.map_nil, g1]
    ·exact h.elim
 ·rename_i s d ox ho
  obtain ⟨v, h1, h2⟩ := h
  obtain ⟨cv, w', Z', g1, g2, g3, g4⟩ := bytes_sound h1 hR (he ox)
  refine .inl ⟨v, cv, μ, Z', H, w', .inl ?_, g2, g3, g4, h2⟩
  simp [execOp, ho, g1]
 ·-- makeSlice
  rename_i ty ol oc ho
  obtain ⟨cv, w', v, μ', Z', H', q1, q2, q3, q4, q5⟩ := makeQ_sound h hR (he ol) (he oc)
  refine .inl ⟨v, cv, μ', Z', H', w', .inl ?_, q2, q3, q4, q5⟩
  simp [execOp, ho, q1]
 ·rename_i op ty ox yt ho
  obtain ⟨ti, e, ne, h1, h2, h3, h4⟩ := h
  obtain ⟨b, g1, g2, A, l, c, hc⟩ := nil_sound K h1 h2 h3 h4 (he ox)
  refine .inl ⟨.bool b, .bool b, μ, Z, H, w, .inl ?_, hR, .bool b, Ev.refl μ Z H w, g2⟩
  have hconst : ca.eval (.const (.slice none 0 0)) = .slice none 0 0 := rfl
  rw [hc] at g1
  have hg : (eqGuard op ty ox (.const (.slice none 0 0)) (.slice A l c) (.slice none 0 0)).run P w = .ok () w := by
   unfold eqGuard
   cases op <;> simp
  simp [execOp, ho, hc, hconst, hg, g1]
 ·exact .inl (mop_sound h hR he)
end
end Go.Av
end

section
set_option linter.unusedSimpArgs false
set_option linter.unusedVariables false
namespace Go.Av
open Go.RowKit

/-- A function's result. -/
def resOne (P : Program) (H : AHeap) (a : List AV) : ResultVar → Option AV
 | .tmp t => some (a.getD t .undef)
 | .cell p t => (cellsAt H (a.getD p .undef)).bind (loadA P t)

def resA (P : Program) (H : AHeap) (a : List AV) (l : List ResultVar) : Option AV :=
 match l with
 | [r] => resOne P H a r
 | l => (l.mapM (resOne P H a)).map .tup

def resSem (tmps : Array Value) (r : ResultVar) : Sem Value :=
 match r with
 | .tmp t => pure (tmps.getD t undef)
 | .cell p t => do loadVar t (← asAddr (tmps.getD p undef))
theorem results_eq (fn : Func) (tmps : Array Value) : results fn tmps = (do let vs ← fn.results.mapM (resSem tmps); pure (if h : vs.size = 1 then vs[0] else .tuple vs)) := rfl

/-- What a function's body must come to. -/
def bodyQ (P : Program) (fn : Func) (K : AV → AHeap → Prop) : Exit → List AV → AHeap → Prop
 | .normal, a, H => ∃ v, resA P H a fn.results.toList = some v ∧ K v H
 | .ret, a, H => ∃ v, resA P H a fn.results.toList = some v ∧ K v H
 | _, _, _ => False

section
variable {P : Program} {B : Nat} {w0 : World} {rd : Option Nat} {a : List AV} {H : AHeap} {μ μ' : Nat → Nat × Nat} {Z Z' : Nat → Nat → Prop} {w w' : World} {n n' : Nat} {E0 : Nat} {ca : Act}
variable {x y i v : AV} {cx cy ci cv : Value} {t t2 ty e : TypeId} {Y : Hand} {Q : Exit → List AV → AHeap → Prop}

theorem lands_wp {o : Oper} {K : AV → AHeap → Prop} {K' : Act → World → Prop} {Q' : Exit → Act → World → Prop} (hd : ∀ c, o.op ≠ .defer c) (h : Lands P B w0 μ Z H w K (FW rd) ((execOp ca.eval o).run P w))
  (hK : ∀ v cv μ' Z' H' w', R B w0 μ' Z' H' w' → VR μ' Z' w' H'.length v cv → Ev μ Z H w μ' Z' H' w' → K v H' → K' (ca.put o.dst cv) w') : o.wpIn (FW rd) 0 P ca w K' Q' := by
 refine ⟨fun _ _ => trivial, ?_⟩
 have hsem : o.semAt (FW rd).round ca.eval = execOp ca.eval o := by
  unfold Oper.semAt
  split
  ·rename_i l c _ ho; exact absurd ho (hd c)
  ·rfl
 rw [hsem]
 rcases h with ⟨v, cv, μ', Z', H', w', hr, h1, h2, h3, h4⟩ | ⟨k, args, hr, hc⟩ | ⟨l, fn, tmps, assign, body, hr, hc⟩
 ·rcases hr with hr | ⟨hr, rfl⟩
  ·rw [hr]; exact hK v cv μ' Z' H' w' h1 h2 h3 h4
  ·rw [hr]; exact hK v undef μ' Z' H' w' h1 h2 h3 h4
 ·rw [hr]
  refine ⟨fun h => (by cases h), hc.mono ?_⟩
  rintro e w' ⟨v, cv, μ', Z', H', rfl, h1, h2, h3, h4⟩
  exact hK v cv μ' Z' H' w' h1 h2 h3 h4
 ·rw [hr]
  refine ⟨fun h => (by cases h), hc.mono ?_⟩
  rintro e w' ⟨v, cv, μ', Z', H', rfl, h1, h2, h3, h4⟩
  exact hK v cv μ' Z' H' w' h1 h2 h3 h4

theorem aop_noDefer {o : Op} {K : AV → AHeap → Prop} (h : AOp P B w0 Y a H o K) : ∀ c, o ≠ .defer c := by
 rintro c rfl
 unfold AOp at h
 simp only [pureA] at h
 exact h.elim

theorem aop_lands {o : Oper} {K : AV → AHeap → Prop} (rd : Option Nat) (hY : YSound P B w0 Y) (h : AOp P B w0 Y a H o.op K) (hR : R B w0 μ Z H w) (he : ∀ x, VR μ Z w H.length (ev a x) (ca.eval x)) :
  Lands P B w0 μ Z H w K (FW rd) ((execOp ca.eval o).run P w) := by
 unfold AOp at h
 split at h
 ·rename_i v hv
  obtain ⟨cv, h1, h2⟩ := pure_run hv hR he
  exact .inl ⟨v, cv, μ, Z, H, w, .inl h1, hR, h2, Ev.refl μ Z H w, h⟩
 ·exact eff_sound rd hY h hR he

theorem wanted_of {ops : Array Oper} {g : Option (Nat × Bool)} {o : Oper} {b : Bool} (hg : o.guard = g) (h : wantA ops.toList a g = some b) (hA : VRs μ Z w n a ca.tmps) : Region.wanted o (yielded ops ca.tmps) = b := by
 unfold Region.wanted
 rw [hg]
 unfold wantA at h
 split at h
 ·simpa using h
 ·rename_i j want
  split at h
  ·rename_i d hd
   split at h
   ·rename_i b' hb
    cases h
    have hv : VR μ Z w n (.bool b') (ca.tmps.getD d undef) := by
     rw [← hb]
     simp only [List.getD]
     cases hd2 : a[d]? with
     | none => exact .undef _
     | some v =>
      obtain ⟨u, k1, k2⟩ := hA.2 d v hd2
      rw [Array.getD_eq_getD_getElem?, k1]
      exact k2
    have hdl : ∃ u, ca.tmps[d]? = some u ∧ u = .bool b' := by
     have hlt : d < a.length := by
      rcases Nat.lt_or_ge d a.length with h | h
      ·exact h
      ·simp [List.getD, List.getElem?_eq_none h] at hb
     have hlt2 : d < ca.tmps.size := by rw [← hA.1]; exact hlt
     refine ⟨ca.tmps[d], Array.getElem?_eq_getElem hlt2, ?_⟩
     rw [Array.getD_eq_getD_getElem?, Array.getElem?_eq_getElem hlt2] at hv
     simp only [Option.getD_some] at hv
     generalize ca.tmps[d] = z at hv
     cases hv; rfl
    obtain ⟨u, hu1, hu2⟩ := hdl
    have hd' : (ops[j]?).bind (·.dst) = some d := by simpa using hd
    simp only [yielded, hd', Option.bind_some, hu1, hu2]
    cases b' <;> cases want <;> rfl
   ·rename_i hb
    cases h
    have hv : VR μ Z w n (.tup []) (ca.tmps.getD d undef) := by
     rw [← hb]
     simp only [List.getD]
     cases hd2 : a[d]? with
     | none => exact .undef _
     | some v =>
      obtain ⟨u, k1, k2⟩ := hA.2 d v hd2
      rw [Array.getD_eq_getD_getElem?, k1]
      exact k2
    have hdl : ∃ u, ca.tmps[d]? = some u ∧ ∀ x, u ≠ .bool x := by
     have hlt : d < a.length := by
      rcases Nat.lt_or_ge d a.length with h | h
      ·exact h
      ·simp [List.getD, List.getElem?_eq_none h] at hb
     have hlt2 : d < ca.tmps.size := by rw [← hA.1]; exact hlt
     refine ⟨ca.tmps[d], Array.getElem?_eq_getElem hlt2, ?_⟩
     rw [Array.getD_eq_getD_getElem?, Array.getElem?_eq_getElem hlt2] at hv
     simp only [Option.getD_some] at hv
     generalize ca.tmps[d] = z at hv
     cases hv
     intro x e; cases e
    obtain ⟨u, hu1, hu2⟩ := hdl
    have hd' : (ops[j]?).bind (·.dst) = some d := by simpa using hd
    simp only [yielded, hd', Option.bind_some, hu1]
    cases u <;> first | rfl | exact absurd rfl (hu2 _)
   ·cases h
  ·cases h

theorem aops_sound {ops : Array Oper} (hY : YSound P B w0 Y) {K : List AV → AHeap → Prop} {K' : Exit → Act → World → Prop} (rd : Option Nat) : ∀ (l : List Oper) (a : List AV) (H : AHeap) (μ : Nat → Nat × Nat) (Z : Nat → Nat → Prop) (w : World) (ca : Act),
  AOps P B w0 Y ops.toList l K a H → R B w0 μ Z H w → AR E0 μ Z w H.length a ca →
  (∀ a' ca' μ' Z' H' w', R B w0 μ' Z' H' w' → AR E0 μ' Z' w' H'.length a' ca' → Ev μ Z H w μ' Z' H' w' → K a' H' → K' .normal ca' w') →
  wpListIn (FW rd) 0 P ops K' l ca w
 | [], a, H, μ, Z, w, ca, h, hR, hA, hK => hK a ca μ Z H w hR hA (Ev.refl μ Z H w) h
 | o :: rest, a, H, μ, Z, w, ca, h, hR, hA, hK => by
  simp only [AOps] at h
  split at h
  ·rename_i b hb
   have hw := wanted_of rfl hb hA.tmps
   unfold wpListIn
   rw [hw]
   cases b with
   | true =>
    rw [if_pos rfl]
    have h := h.1 rfl
    refine lands_wp (aop_noDefer h) (aop_lands rd hY h hR hA.ev) ?_
    intro v cv μ' Z' H' w' k1 k2 k3 k4
    exact aops_sound hY rd rest _ H' μ' Z' w' _ k4 k1 ((hA.evolve hR k3).put o.dst k2) (fun a' ca' μ'' Z'' H'' w'' j1 j2 j3 j4 => hK a' ca' μ'' Z'' H'' w'' j1 j2 (k3.trans j3) j4)
   | false =>
    rw [if_neg (by simp)]
    exact ⟨fun _ _ => trivial, aops_sound hY rd rest _ H μ Z w _ (h.2 rfl) hR (hA.put o.dst vrSkip) hK⟩
  ·exact h.elim

/-- A REGION IN THE ORDER OF THE TEXT. -/
theorem AWP.region {id : Nat} {ops : Array Oper} (hY : YSound P B w0 Y) (h : AOps P B w0 Y ops.toList ops.toList (Q .normal) a H) : AWP P B w0 rd (.region id ops false) Q a H := by
 intro E0 μ Z w ca h1 h2 h3
 refine wpIn_region_list (aops_sound hY _ ops.toList a H μ Z w ca h h1 h2 ?_)
 intro a' ca' μ' Z' H' w' k1 k2 k3 k4
 exact ⟨μ', Z', a', H', k1, k2, k3, k4⟩

theorem resOne_run {r : ResultVar} (h : resOne P H a r = some v) (hR : R B w0 μ Z H w) (hA : VRs μ Z w H.length a ca.tmps) :
  ∃ cv, (resSem ca.tmps r).run P w = .ok cv w ∧ VR μ Z w H.length v cv := by
 have hget : ∀ t, VR μ Z w H.length (a.getD t .undef) (ca.tmps.getD t undef) := by
  intro t
  simp only [List.getD]
  cases hd2 : a[t]? with
  | none => exact .undef _
  | some v =>
   obtain ⟨u, k1, k2⟩ := hA.2 t v hd2
   rw [Array.getD_eq_getD_getElem?, k1]
   exact k2
 cases r with
 | tmp t =>
  simp only [resOne, Option.some.injEq] at h
  subst h
  exact ⟨_, rfl, hget t⟩
 | cell p t =>
  simp only [resOne] at h
  cases hc : cellsAt H (a.getD p .undef) with
  | none => rw [hc] at h; cases h
  | some l =>
   rw [hc] at h
   simp only [Option.bind_some] at h
   obtain ⟨c, o', h1, h2⟩ := cells_get hc hR (hget p)
   obtain ⟨cv, h3, h4, _⟩ := load_run (P := P) h h2
   exact ⟨cv, by simp [resSem, h1, asAddr, h3], h4⟩

theorem res_mapM (hR : R B w0 μ Z H w) (hA : VRs μ Z w H.length a ca.tmps) : ∀ {l : List ResultVar} {vs : List AV}, l.mapM (resOne P H a) = some vs →
  ∃ cvs : List Value, (l.mapM (resSem ca.tmps)).run P w = .ok cvs w ∧ VRs μ Z w H.length vs cvs.toArray
 | [], vs, h => by
  simp at h; subst h
  exact ⟨[], by simp [Sem.run_pure], rfl, by simp⟩
 | r :: l, vs, h => by
  simp only [List.mapM_cons] at h
  cases h1 : resOne P H a r with
  | none => rw [h1] at h; cases h
  | some v =>
   cases h2 : l.mapM (resOne P H a) with
   | none => rw [h1, h2] at h; cases h
   | some us =>
    rw [h1, h2] at h
    cases h
    obtain ⟨cv, k1, k2⟩ := resOne_run (P := P) h1 hR hA
    obtain ⟨cvs, k3, k4⟩ := res_mapM hR hA h2
    refine ⟨cv :: cvs, ?_, by simp [k4.1], ?_⟩
    ·simp only [List.mapM_cons, Sem.run_bind, k1, Result.andThen_ok, k3, Sem.run_pure]
    ·intro j u hj
     cases j with
     | zero => simp at hj; subst hj; exact ⟨cv, by simp, k2⟩
     | succ j => obtain ⟨u', q1, q2⟩ := k4.2 j u (by simpa using hj); exact ⟨u', by simpa using q1, q2⟩

theorem mapM_len {α β : Type} (f : α → Option β) : ∀ {l : List α} {vs : List β}, l.mapM f = some vs → l.length = vs.length
 | [], vs, h => by simp at h; subst h; rfl
 | r :: l, vs, h => by
  simp only [List.mapM_cons] at h
  cases q1 : f r with
  | none => rw [q1] at h; cases h
  | some v =>
   cases q2 : l.mapM f with
   | none => rw [q1, q2] at h; cases h
   | some us => rw [q1, q2] at h; cases h; simp [mapM_len f q2]

theorem res_run {fn : Func} (h : resA P H a fn.results.toList = some v) (hR : R B w0 μ Z H w) (hA : VRs μ Z w H.length a ca.tmps) : ∃ cv, (results fn ca.tmps).run P w = .ok cv w ∧ VR μ Z w H.length v cv := by
 rw [results_eq, Array.mapM_eq_mapM_toList]
 have hmap : ∀ (m : Sem (List Value)) (r : List Value), m.run P w = .ok r w → (List.toArray <$> m).run P w = .ok r.toArray w := by
  intro m r hm
  show (m >>= fun x => pure x.toArray).run P w = _
  simp [hm]
 unfold resA at h
 split at h
 ·rename_i r hl
  obtain ⟨cv, k1, k2⟩ := resOne_run (P := P) h hR hA
  obtain ⟨cvs, k3, k4⟩ := res_mapM (P := P) (l := [r]) (vs := [v]) hR hA (by simp [h])
  have hone : cvs = [cv] := by
   simp only [List.mapM_cons, List.mapM_nil, Sem.run_bind, k1, Result.andThen_ok, Sem.run_pure, Result.ok.injEq, and_true] at k3
   exact k3.symm
  subst hone
  refine ⟨cv, ?_, k2⟩
  rw [hl, Sem.run_bind, hmap _ _ k3]
  rfl
 ·rename_i hne
  cases hm : fn.results.toList.mapM (resOne P H a) with
  | none => rw [hm] at h; cases h
  | some vs =>
   rw [hm] at h
   simp only [Option.map_some, Option.some.injEq] at h
   subst h
   obtain ⟨cvs, k3, k4⟩ := res_mapM (P := P) hR hA hm
   refine ⟨.tuple cvs.toArray, ?_, k4.tup⟩
   rw [Sem.run_bind, hmap _ _ k3]
   simp only [Result.andThen_ok]
   have hlen : cvs.length ≠ 1 := by
    intro hl
    have h1 : vs.length = 1 := by rw [k4.1]; simpa using hl
    have h2 : fn.results.toList.length = vs.length := mapM_len _ hm
    match hr : fn.results.toList, h2 with
    | [r], _ => exact hne r hr
    | [], h2 => simp at h2; omega
    | _ :: _ :: _, h2 => simp at h2; omega
   rw [dif_neg (by simpa using hlen)]
   rfl

/-- A block of deferred calls is taken over. -/
theorem take_deferred (hR : R B w0 μ Z H w) {D : Nat} (hD : w.heap[D]? = some (.deferred (some []))) (hB : B ≤ D) :
  ∃ w', (Instr.takeDeferred D).run P w = .ok [] w' ∧ R B w0 μ Z H w' ∧ (∀ k : Nat, k ≠ D → w'.heap[k]? = w.heap[k]?) ∧ w'.heap.size = w.heap.size ∧
   (∀ c o, w'.cell? ⟨c, o, none⟩ = w.cell? ⟨c, o, none⟩) ∧ (∀ c, w'.shape? c = w.shape? c) := by
 have hlt := deferred_lt hD
 let w' : World := { w with heap := w.heap.setIfInBounds D (.deferred none) }
 have hoth : ∀ k : Nat, k ≠ D → w'.heap[k]? = w.heap[k]? := fun k hk => by
  show (w.heap.setIfInBounds D _)[k]? = _
  rw [Array.getElem?_setIfInBounds, if_neg (fun e => hk e.symm)]
 have hself : w'.heap[D]? = some (.deferred none) := by
  show (w.heap.setIfInBounds D _)[D]? = _
  rw [Array.getElem?_setIfInBounds, if_pos rfl, if_pos hlt]
 have hsize : w'.heap.size = w.heap.size := by show (w.heap.setIfInBounds D _).size = _; simp
 have hcell : ∀ c o, w'.cell? ⟨c, o, none⟩ = w.cell? ⟨c, o, none⟩ := by
  intro c o
  by_cases hc : c = D
  ·subst hc; simp only [World.cell?, hself, hD]
  ·exact World.cell?_of_block (a := ⟨c, o, none⟩) (hoth c hc)
 have hshape : ∀ c, w'.shape? c = w.shape? c := by
  intro c
  by_cases hc : c = D
  ·subst hc; simp only [World.shape?, hself, hD]
  ·simp only [World.shape?, hoth c hc]
 refine ⟨w', ?_, ?_, hoth, hsize, hcell, hshape⟩
 ·simp only [Instr.takeDeferred, getObj, setObj, Sem.run_bind, Sem.run, hD, Result.andThen_ok]
  rfl
 ·refine ⟨hR.below.trans ⟨rfl, rfl, rfl, by omega, fun k hk => hoth k (by omega)⟩, by rw [hsize]; exact hR.hB, fun c o h => by rw [hsize]; exact hR.zlt c o h, fun id o hid => ?_, hR.inj⟩
  have hl := (List.getElem?_eq_some_iff.1 hid).1
  refine OR.keep (hR.obj id o hid) hl (Nat.le_refl _) (fun _ _ => rfl) (fun _ _ h => h) (fun c o _ => hcell c o) (fun c _ => hshape c) (by omega) ?_ (fun _ h => h)
  intro ha
  exact hoth _ (hR.unowned hD id o hid ha)

theorem leaves_marks {fn : Func} {tmps : Array Value} {Rr : Ending → World → Prop} {He : AHeap} {μe : Nat → Nat × Nat} {Ze : Nat → Nat → Prop} {we : World} {K : AV → AHeap → Prop} (hres : resA P H a fn.results.toList = some v) (hK : K v H)
  (hRr : ∀ cv μ' w', R B w0 μ' Z H w' → VR μ' Z w' H.length v cv → Ev μe Ze He we μ' Z H w' → Rr (.returned cv) w') (hB : B ≤ we.heap.size) : ∀ (Ds : List Nat) (w : World) (ca : Act), ca.tmps = tmps → R B w0 μ Z H w → VRs μ Z w H.length a tmps → Ev μe Ze He we μ Z H w →
  Ds.Nodup → (∀ D, D ∈ Ds → we.heap.size ≤ D ∧ w.heap[D]? = some (.deferred (some []))) →
  LeavesInM (FW none) 0 P fn tmps Rr (Ds.map (fun D => { target := .collected D, args := #[] })) .returning w
 | [], w, ca, hca, hR, hA, hE, _, _ => by
  obtain ⟨cv, k1, k2⟩ := res_run (P := P) (ca := { tmps := tmps, defers := [] }) hres hR hA
  exact ⟨cv, k1, hRr cv μ w hR k2 hE⟩
 | D :: Ds, w, ca, hca, hR, hA, hE, hnd, hD => by
  obtain ⟨h1, h2⟩ := hD D (by simp)
  obtain ⟨w', k1, k2, k3, k4, k5, k6⟩ := take_deferred (P := P) hR h2 (by omega)
  refine ⟨by simp, .inl ⟨D, w', rfl, k1, ?_⟩⟩
  have hE' : Ev μe Ze He we μ Z H w' := by
   refine ⟨hE.len, hE.mu, hE.z, fun c o h => (k5 c o).trans (hE.zcell c o h), fun c h => (k6 c).trans (hE.shape c h), by have := hE.size; omega, fun c hc hu => (k3 c (by omega)).trans (hE.frame c hc hu), hE.own, hE.znew⟩
  have hA' : VRs μ Z w' H.length a tmps := hA.mono (Nat.le_refl _) (fun _ _ => rfl) (fun _ _ h => h) (fun c o _ => k5 c o) (fun c _ => k6 c)
  exact leaves_marks hres hK hRr hB Ds w' ca hca k2 hA' hE' (List.nodup_cons.1 hnd).2 (fun D' hD' => by
   obtain ⟨q1, q2⟩ := hD D' (by simp [hD'])
   exact ⟨q1, (k3 D' (fun e => (List.nodup_cons.1 hnd).1 (e ▸ hD'))).trans q2⟩)

/-- A FUNCTION, BY ITS BODY. -/
theorem ACall.enter {f : FuncId} {fn : Func} {c : Code} {args : List AV} {K : AV → AHeap → Prop} (hf : P.funcs[f]? = some fn) (hname : (fn.name == "runtime.NumGoroutine") = false) (hb : fn.body = some c)
  (h : AWP P B w0 none c (bodyQ P fn K) (args ++ List.replicate (fn.ntmps - args.length) .undef) H) : ACall P B w0 f args H K := by
 refine ⟨?_, ?_⟩
 ·intro args w
  have h1 : fn.name ≠ "runtime.NumGoroutine" := by simpa using hname
  simp [callFunc, hf, h1, hb, mark]
 ·intro μ Z w cargs hR hA
  refine callsIn_of_wp_marks hf hb trivial ?_ rfl
  have hargs : VRs μ Z w H.length (args ++ List.replicate (fn.ntmps - args.length) .undef) (cargs ++ Array.replicate (fn.ntmps - cargs.size) undef) := by
   refine hA.append ⟨by simp [hA.1], fun j v hj => ?_⟩
   have hlt : j < fn.ntmps - args.length := by have := (List.getElem?_eq_some_iff.1 hj).1; simpa using this
   have : v = .undef := List.eq_of_mem_replicate (List.mem_of_getElem? hj)
   subst this
   exact ⟨undef, by rw [← hA.1]; simp [hlt], .undef _⟩
  have := h w.heap.size μ Z w { tmps := cargs ++ Array.replicate (fn.ntmps - cargs.size) undef, defers := [] } hR ⟨hargs, Nat.le_refl _, [], rfl, List.nodup_nil, by simp⟩ (by simp)
  refine wpIn_mono this ?_
  rintro e ca' w' ⟨μ', Z', a', H', k1, k2, k3, k4⟩
  obtain ⟨Ds, m1, m2, m3⟩ := k2.marks
  have leave : ∀ v, resA P H' a' fn.results.toList = some v → K v H' → LeavesInM (FW none) 0 P fn ca'.tmps (fun e w' => ∃ v cv μ' Z' H', e = .returned cv ∧ R B w0 μ' Z' H' w' ∧ VR μ' Z' w' H'.length v cv ∧ Ev μ Z H w μ' Z' H' w' ∧ K v H') ca'.defers .returning w' := by
   intro v hv hK
   rw [m1]
   exact leaves_marks (K := K) hv hK (fun cv μ'' w'' q1 q2 q3 => ⟨v, cv, μ'', Z', H', rfl, q1, q2, q3, hK⟩) hR.hB Ds w' ca' rfl k1 k2.tmps k3 m2 m3
  cases e with
  | normal => obtain ⟨v, hv, hK⟩ := k4; exact leave v hv hK
  | ret => obtain ⟨v, hv, hK⟩ := k4; exact leave v hv hK
  | exit => exact k4.elim
  | goto => exact k4.elim
  | panic => exact k4.elim
  | outgrown => exact k4.elim
end
end Go.Av
end

section
set_option linter.unusedSimpArgs false
set_option linter.unusedVariables false
namespace Go.Av
open Go.RowKit

theorem thenQ_mono {n n' : List AV → AHeap → Prop} {Q : Exit → List AV → AHeap → Prop} (h : ∀ a H, n a H → n' a H) : ∀ e a H, thenQ n Q e a H → thenQ n' Q e a H := by
 intro e a H hq
 cases e <;> first | exact h a H hq | exact hq

end Go.Av
end
