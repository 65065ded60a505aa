/- the layer over the model, part 7 -/
import Derived.Test.YtahhhfgmcdajhaaA6
set_option autoImplicit false
set_option linter.unusedSimpArgs false
set_option linter.unusedVariables false
set_option linter.unnecessarySimpa false
section
set_option linter.unusedSimpArgs false
set_option linter.unusedVariables false
namespace Go.Av
open Go.RowKit

def someK (o : Option AV) (K : AV → AHeap → Prop) (H : AHeap) : Prop := ∃ v, o = some v ∧ K v H
theorem someK_some (v : AV) (K : AV → AHeap → Prop) (H : AHeap) : someK (some v) K H = K v H := by simp [someK]
/-- What is reckoned later. -/
def later (f : List AV → AHeap → Prop) (a : List AV) (H : AHeap) : Prop := f a H
/-- A way that parts. -/
def Br (p : Prop) (x y : Prop) : Prop := (p → x) ∧ (¬ p → y)
theorem Br.mk' {p x y : Prop} (h1 : p → x) (h2 : ¬ p → y) : Br p x y := ⟨h1, h2⟩
theorem Br.pos {p x y : Prop} (hp : p) (h1 : x) : Br p x y := ⟨fun _ => h1, fun h => absurd hp h⟩
theorem Br.neg {p x y : Prop} (hp : ¬ p) (h1 : y) : Br p x y := ⟨fun h => absurd h hp, fun _ => h1⟩

def branch (v : AV) (f g : List AV → AHeap → Prop) (a : List AV) (H : AHeap) : Prop :=
 match v with
 | .bool t => Br (t = true) (later f a H) (later g a H)
 | _ => False
section
variable (f g : List AV → AHeap → Prop) (a : List AV) (H : AHeap)
theorem branch_true : branch (.bool true) f g a H = f a H := by simp [branch, Br, later]
theorem branch_false : branch (.bool false) f g a H = g a H := by simp [branch, Br, later]
theorem branch_dec (p : Prop) [Decidable p] : branch (.bool (decide p)) f g a H = Br p (later f a H) (later g a H) := by simp [branch]
theorem branch_not (b : Bool) : branch (.bool (!b)) f g a H = branch (.bool b) g f a H := by cases b <;> simp [branch, Br, later]
theorem branch_and (b c : Bool) : branch (.bool (b && c)) f g a H = Br (b = true ∧ c = true) (later f a H) (later g a H) := by simp [branch]
theorem branch_or (b c : Bool) : branch (.bool (b || c)) f g a H = Br (b = true ∨ c = true) (later f a H) (later g a H) := by simp [branch]
end

def isUndef : AV → Bool
 | .undef => true
 | _ => false
/-- A part is laid in its place. -/
def fillP (pl : Nat → Option (Nat × Nat)) (cells : List AV) (rest : List (Nat × AV)) (v : AV) : Bool → Option (Nat × Nat) → Option (List AV)
 | false, some (off, size) => if v.cells.length = size ∧ off + size ≤ cells.length then fillA pl (cells.take off ++ v.cells ++ cells.drop (off + size)) rest else none
 | _, _ => none
theorem fillA_nil (pl : Nat → Option (Nat × Nat)) (cells : List AV) : fillA pl cells [] = some cells := Eq.trans rfl rfl
theorem fillA_cons (pl : Nat → Option (Nat × Nat)) (cells : List AV) (i : Nat) (v : AV) (rest : List (Nat × AV)) : fillA pl cells ((i, v) :: rest) = fillP pl cells rest v (isUndef v) (pl i) := by
 simp only [fillA]
 cases pl i with
 | none => cases v <;> rfl
 | some q => obtain ⟨off, size⟩ := q; cases v <;> rfl
theorem fillP_some (pl : Nat → Option (Nat × Nat)) (cells : List AV) (rest : List (Nat × AV)) (v : AV) (off size : Nat) : fillP pl cells rest v false (some (off, size)) = if v.cells.length = size ∧ off + size ≤ cells.length then fillA pl (cells.take off ++ v.cells ++ cells.drop (off + size)) rest else none := Eq.trans rfl rfl
def okCells (v : AV) : Bool := v.cells.all AV.one && !isUndef v
theorem okCells_spec {v : AV} (h : okCells v = true) : v.cells.all AV.one = true ∧ v ≠ .undef := by
 simp only [okCells, Bool.and_eq_true, Bool.not_eq_true'] at h
 exact ⟨h.1, by rintro rfl; cases h.2⟩

def someK2 (o : Option (AV × AHeap)) (K : AV → AHeap → Prop) : Prop := ∃ v H, o = some (v, H) ∧ K v H
theorem someK2_some (v : AV) (H : AHeap) (K : AV → AHeap → Prop) : someK2 (some (v, H)) K = K v H := by
 apply propext
 exact ⟨fun ⟨_, _, h, hk⟩ => by cases h; exact hk, fun h => ⟨_, _, rfl, h⟩⟩

def partOk (sz len : Nat) (p : Nat × AV) : Bool := decide (p.1 < len) && (p.2.cells.length == sz) && okCells p.2

/-- What an operation that writes comes to. -/
def effV (P : Program) (a : List AV) (H : AHeap) : Op → Option (AV × AHeap)
 | .alloc e => match tyA P e with
  | some te => match te.zero with
   | some z => if z.cells.all AV.one then some (.ptr H.length 0, H ++ [.cells z.cells]) else none
   | none => none
  | none => none
 | .box _ x => if okCells (ev a x) then some (.ptr H.length 0, H ++ [.cells (ev a x).cells]) else none
 | .buildSlice t len parts => match tyA P t with
  | some ti => match ti.kind with
   | .slice e => match tyA P e with
    | some te => match te.zero with
     | some z => if (z.cells.length == te.size) && z.cells.all AV.one && decide (len * te.size ≤ 16777216) && decide (0 < te.size) && (parts.toList.map fun p => (p.1, ev a p.2)).all (partOk te.size len)
       then some (.dl te.size (setAll (List.replicate len z) (parts.toList.map fun p => (p.1, ev a p.2))) .full, H) else none
     | none => none
    | none => none
   | _ => none
  | none => none
 | .store t addr x => match ev a addr with
  | .ptr id off => match H[id]? with
   | some (.cells cs) => match tyA P t with
    | some te => if ((ev a x).cells.length == te.size) && decide (off + te.size ≤ cs.length) && okCells (ev a x) then some (.undef, H.set id (.cells (putA cs off (ev a x).cells))) else none
    | none => none
   | _ => none
  | _ => none
 | _ => none

theorem effV_sound {P : Program} {B : Nat} {w0 : World} {Y : Hand} {a : List AV} {H : AHeap} {op : Op} {K : AV → AHeap → Prop} (h : someK2 (effV P a H op) K) : AEff P B w0 Y a H op K := by
 obtain ⟨v, H', h, hk⟩ := h
 unfold effV at h
 split at h
 ·split at h
  ·rename_i te hte
   split at h
   ·rename_i z hz
    split at h
    ·rename_i hc
     cases h
     exact ⟨te, z, hte, hz, hc, hk⟩
    ·cases h
   ·cases h
  ·cases h
 ·split at h
  ·rename_i hc
   cases h
   obtain ⟨h1, h2⟩ := okCells_spec hc
   exact ⟨h1, h2, hk⟩
  ·cases h
 ·split at h
  ·rename_i ti hti
   split at h
   ·rename_i e he
    split at h
    ·rename_i te hte
     split at h
     ·rename_i z hz
      split at h
      ·rename_i hc
       cases h
       simp only [Bool.and_eq_true, beq_iff_eq, decide_eq_true_eq] at hc
       obtain ⟨⟨⟨⟨c1, c2⟩, c3⟩, c4⟩, c5⟩ := hc
       refine ⟨ti, e, te, z, hti, he, hte, hz, c1, c2, c3, c4, ?_, hk⟩
       intro p hp
       have := List.all_eq_true.1 c5 p hp
       simp only [partOk, Bool.and_eq_true, beq_iff_eq, decide_eq_true_eq] at this
       obtain ⟨⟨p1, p2⟩, p3⟩ := this
       obtain ⟨p4, p5⟩ := okCells_spec p3
       exact ⟨p1, p2, p4, p5⟩
      ·cases h
     ·cases h
    ·cases h
   ·cases h
  ·cases h
 ·split at h
  ·rename_i id off ha
   split at h
   ·rename_i cs hcs
    split at h
    ·rename_i te hte
     split at h
     ·rename_i hc
      cases h
      simp only [Bool.and_eq_true, beq_iff_eq, decide_eq_true_eq] at hc
      obtain ⟨⟨c1, c2⟩, c3⟩ := hc
      obtain ⟨c4, c5⟩ := okCells_spec c3
      exact ⟨_, wkD.refl _, id, off, cs, te, ha, hcs, hte, c1, c2, c4, c5, hk⟩
     ·cases h
    ·cases h
   ·cases h
  ·cases h
 ·cases h

/-- What is reckoned later, of a value. -/
def lateK (K : AV → AHeap → Prop) (v : AV) (H : AHeap) : Prop := K v H
theorem lateK_eq (K : AV → AHeap → Prop) (v : AV) (H : AHeap) : lateK K v H = K v H := Eq.trans rfl rfl
def NilE (ne : Bool) (H : AHeap) (K : AV → AHeap → Prop) : AV → Prop
 | .dl _ es _ => Br (es = []) (lateK K (.bool true) H ∧ lateK K (.bool false) H) (lateK K (.bool ne) H)
 | .sl _ _ _ _ => K (.bool ne) H
 | _ => False
theorem NilE_sound {ne : Bool} {v : AV} {H : AHeap} {K : AV → AHeap → Prop} (h : NilE ne H K v) : NilQ ne v H K := by
 unfold NilE at h
 split at h
 ·exact ⟨fun e b => by cases b <;> first | exact (h.1 e).1 | exact (h.1 e).2, fun e => h.2 e⟩
 ·exact h
 ·exact h.elim
def isSliceT (P : Program) (t : TypeId) : Bool := match tyA P t with
 | some ti => match ti.kind with | .slice _ => true | _ => false
 | none => false
def isNil : Operand → Bool
 | .const (.slice none 0 0) => true
 | _ => false
def binE (P : Program) (H : AHeap) (K : AV → AHeap → Prop) (op : BinOp) (t : TypeId) (x y : AV) : Bool → Option Bool → Prop
 | true, some ne => isSliceT P t = true ∧ NilE ne H K x
 | _, _ => someK (binA P op t x y) K H

def AppE (P : Program) (t t2 : TypeId) (x y : AV) (H : AHeap) (K : AV → AHeap → Prop) : Prop := ∃ y', wkD y' y ∧ (AApp P t t2 x y' H K ∨ AppM P t t2 x y' H K ∨ AppC P t t2 x y' H K ∨ AppO P t t2 x y' H K)

def callV (P : Program) (B : Nat) (w0 : World) (Y : Hand) (args : List AV) (H : AHeap) (K : AV → AHeap → Prop) : AV → Prop
 | .fn (.func k) first cap => ACall P B w0 k (first ++ args ++ cap) H K
 | .fn (.yield l) [] [] => Y l args H K
 | _ => False

def callE (P : Program) (B : Nat) (w0 : World) (Y : Hand) (a : List AV) (H : AHeap) (K : AV → AHeap → Prop) : Callee → List Operand → List TypeId → Prop
 | .value f, args, _ => callV P B w0 Y (args.map (ev a)) H K (ev a f)
 | .builtin .append, [x, y], [t, t2] => AppE P t t2 (ev a x) (ev a y) H K
 | .builtin .clear, [x], [t] => Clr P t (ev a x) H K
 | .builtin .len, [x], [t] => someK (lenA P H t (ev a x)) K H
 | .builtin .cap, [x], [t] => someK (capA P t (ev a x)) K H
 | .builtin .min, [x, y], _ => someK (minA (ev a x) (ev a y)) K H
 | .builtin .max, [x, y], _ => someK (maxA (ev a x) (ev a y)) K H
 | .builtin .delete, [x, y], [t, _] => DelQ P t (ev a x) (ev a y) H K
 | .builtin .copy, [x, y], [t, t2] => CpyQ P t t2 (ev a x) (ev a y) H K
 | _, _, _ => False

/-- A conversion. -/
def convB (P : Program) (s d : TypeId) (x : AV) : Option AV :=
 match convA P s d x with
 | some v => some v
 | none => bytesA P s d x
/-- One operation. -/
def eop (P : Program) (B : Nat) (w0 : World) (Y : Hand) (a : List AV) (H : AHeap) (op : Op) (K : AV → AHeap → Prop) : Prop :=
 match op with
 | .move x => K (ev a x) H
 | .assign x => K (ev a x) H
 | .pick c x y => someK (pickA (ev a c) (ev a x) (ev a y)) K H
 | .binOp op t x y _ => binE P H K op t (ev a x) (ev a y) (isNil y) (isNe op)
 | .unOp op _ x => someK (unA op (ev a x)) K H
 | .convert s d x => someK (convB P s d (ev a x)) K H
 | .makeFunc fn first cap => match fn with
  | .func k => K (.fn (.func k) (first.toList.map (ev a)) (cap.toList.map (ev a))) H
  | _ => False
 | .fieldAddr s x f => someK (fieldAddrA P s (ev a x) f) K H
 | .field t x f => someK (fieldA P t (ev a x) f) K H
 | .indexAddr t x i => someK (indexAddrA P t (ev a x) (ev a i)) K H
 | .index t x i => someK (indexA P t (ev a x) (ev a i)) K H
 | .slice t x lo hi mx => someK (sliceA P t (ev a x) (lo.map (ev a)) (hi.map (ev a)) (mx.map (ev a))) K H
 | .extract x i => someK (extractA (ev a x) i) K H
 | .nilCheck x => someK (nilCheckA (ev a x)) K H
 | .build t parts => someK (buildA P t (parts.toList.map fun p => (p.1, ev a p.2))) K H
 | .load t x => someK ((cellsAt H (ev a x)).bind (loadA P t)) K H
 | .alloc e => someK2 (effV P a H (.alloc e)) K
 | .box e x => someK2 (effV P a H (.box e x)) K
 | .buildSlice t len parts => someK2 (effV P a H (.buildSlice t len parts)) K
 | .store t addr x => StoE P t (ev a addr) (ev a x) H K
 | .makeSlice t l c => MakeQ P t (ev a l) (ev a c) H K
 | .call c => callE P B w0 Y a H K c.callee c.args.toList c.argTypes.toList
 | op => MOp P a H op K

def guardV (v : AV) (want : Bool) (f g : List AV → AHeap → Prop) (a : List AV) (H : AHeap) : Prop := match v with
 | .tup [] => g a H
 | v => if want then branch v f g a H else branch v g f a H
theorem guardV_n (want : Bool) (f g : List AV → AHeap → Prop) (a : List AV) (H : AHeap) : guardV (.tup []) want f g a H = g a H := Eq.trans rfl rfl
theorem guardV_t (b : Bool) (f g : List AV → AHeap → Prop) (a : List AV) (H : AHeap) : guardV (.bool b) true f g a H = branch (.bool b) f g a H := Eq.trans rfl rfl
theorem guardV_f (b : Bool) (f g : List AV → AHeap → Prop) (a : List AV) (H : AHeap) : guardV (.bool b) false f g a H = branch (.bool b) g f a H := Eq.trans rfl rfl

/-- The value that a guard asks. -/
def gval (ops : List Oper) (a : List AV) (j : Nat) : AV :=
 match (ops[j]?).bind (·.dst) with
 | some d => a.getD d .undef
 | none => .undef

def eops (P : Program) (B : Nat) (w0 : World) (Y : Hand) (ops : List Oper) : List Oper → (List AV → AHeap → Prop) → List AV → AHeap → Prop
 | [], K, a, H => K a H
 | o :: rest, K, a, H => match o.guard with
  | none => eop P B w0 Y a H o.op fun v H' => eops P B w0 Y ops rest K (putD a o.dst v) H'
  | some (j, want) => guardV (gval ops a j) want (fun a H => eop P B w0 Y a H o.op fun v H' => eops P B w0 Y ops rest K (putD a o.dst v) H') (fun a H => eops P B w0 Y ops rest K (putD a o.dst (.tup [])) H) a H

/-- What follows behind an operation. -/
def eopsK (P : Program) (B : Nat) (w0 : World) (Y : Hand) (ops rest : List Oper) (K : List AV → AHeap → Prop) (dst : Option Tmp) (a : List AV) : AV → AHeap → Prop := fun v H' => eops P B w0 Y ops rest K (putD a dst v) H'
def eopR (P : Program) (B : Nat) (w0 : World) (Y : Hand) (ops rest : List Oper) (K : List AV → AHeap → Prop) (op : Op) (dst : Option Tmp) : List AV → AHeap → Prop := fun a H => eop P B w0 Y a H op (eopsK P B w0 Y ops rest K dst a)
def eopS (P : Program) (B : Nat) (w0 : World) (Y : Hand) (ops rest : List Oper) (K : List AV → AHeap → Prop) (dst : Option Tmp) : List AV → AHeap → Prop := fun a H => eops P B w0 Y ops rest K (putD a dst (.tup [])) H

section
variable (P : Program) (B : Nat) (w0 : World) (Y : Hand) (ops rest : List Oper) (K : List AV → AHeap → Prop) (a : List AV) (H : AHeap) (op : Op) (dst : Option Tmp) (ty : TypeId) (pos : String) (af : Array Edge)
theorem eops_nil : eops P B w0 Y ops [] K a H = K a H := Eq.trans rfl rfl
theorem eops_plain : eops P B w0 Y ops (⟨dst, op, ty, pos, af, none⟩ :: rest) K a H = eop P B w0 Y a H op (eopsK P B w0 Y ops rest K dst a) := Eq.trans rfl rfl
theorem eops_guard (j : Nat) (want : Bool) : eops P B w0 Y ops (⟨dst, op, ty, pos, af, some (j, want)⟩ :: rest) K a H = guardV (gval ops a j) want (eopR P B w0 Y ops rest K op dst) (eopS P B w0 Y ops rest K dst) a H := Eq.trans rfl rfl
theorem eopsK_eq (v : AV) : eopsK P B w0 Y ops rest K dst a v H = eops P B w0 Y ops rest K (putD a dst v) H := Eq.trans rfl rfl
theorem eopS_eq : eopS P B w0 Y ops rest K dst a H = eops P B w0 Y ops rest K (putD a dst (.tup [])) H := Eq.trans rfl rfl
end

theorem eop_sound {P : Program} {B : Nat} {w0 : World} {Y : Hand} {a : List AV} {H : AHeap} {op : Op} {K : AV → AHeap → Prop} (h : eop P B w0 Y a H op K) : AOp P B w0 Y a H op K := by
 have some' : ∀ {o : Option AV}, someK o K H → pureA P H a op = o → AOp P B w0 Y a H op K := by
  rintro o ⟨v, rfl, hk⟩ he
  unfold AOp; rw [he]; exact hk
 have val' : ∀ {v : AV}, K v H → pureA P H a op = some v → AOp P B w0 Y a H op K := by
  intro v hk he
  unfold AOp; rw [he]; exact hk
 have eff' : AEff P B w0 Y a H op K → pureA P H a op = none → AOp P B w0 Y a H op K := by
  intro he hn
  unfold AOp; rw [hn]; exact he
 cases op with
 | makeFunc fn first cap => cases fn with
  | func k => exact val' h rfl
  | _ => exact h.elim
 | convert s d x =>
  obtain ⟨v, h1, h2⟩ := h
  unfold convB at h1
  split at h1
  ·rename_i u hu; cases h1; exact val' h2 hu
  ·rename_i hu; exact eff' ⟨v, h1, h2⟩ hu
 | call c =>
  obtain ⟨callee, ⟨args⟩, ⟨tys⟩⟩ := c
  simp only [eop] at h
  unfold callE at h
  split at h
  ·rename_i f args _
   refine eff' ?_ rfl
   simp only [AEff]
   unfold callV at h
   split at h
   ·rename_i hf; rw [hf]; exact h
   ·rename_i hf; rw [hf]; exact h
   ·exact h.elim
  ·exact eff' h rfl
  ·exact eff' h rfl
  ·exact some' h rfl
  ·exact some' h rfl
  ·exact some' h rfl
  ·exact some' h rfl
  ·exact eff' h rfl
  ·exact eff' h rfl
  ·exact h.elim
 | binOp op t x y yt =>
  simp only [eop] at h
  unfold binE at h
  split at h
  ·rename_i ne hn hne
   obtain ⟨h1, h2⟩ := h
   have hy : y = .const (.slice none 0 0) := by
    unfold isNil at hn
    split at hn
    ·rfl
    ·cases hn
   subst hy
   unfold isSliceT at h1
   split at h1
   ·rename_i ti hti
    split at h1
    ·rename_i e he
     refine eff' ⟨ti, e, ne, hti, he, hne, NilE_sound h2⟩ ?_
     have hx : (∃ sz es tl, ev a x = .dl sz es tl) ∨ ∃ sz id off len, ev a x = .sl sz id off len := by
      revert h2
      cases ev a x <;> intro h2 <;> first | exact .inl ⟨_, _, _, rfl⟩ | exact .inr ⟨_, _, _, _, rfl⟩ | exact h2.elim
     simp only [pureA]
     rcases hx with ⟨_, _, _, hx⟩ | ⟨_, _, _, _, hx⟩ <;> rw [hx] <;> rfl
    ·cases h1
   ·cases h1
  ·exact some' h rfl
 | alloc => exact eff' (effV_sound h) rfl
 | box => exact eff' (effV_sound h) rfl
 | buildSlice => exact eff' (effV_sound h) rfl
 | makeSlice t l c => exact eff' h rfl
 | store => exact eff' h rfl
 | _ => first
  | exact val' h rfl
  | exact some' h rfl
  | exact eff' h rfl
  | exact h.elim

theorem branch_sound {v : AV} {f g : List AV → AHeap → Prop} {a : List AV} {H : AHeap} (h : branch v f g a H) : ∃ b, v = .bool b ∧ (b = true → f a H) ∧ (b = false → g a H) := by
 unfold branch at h
 split at h
 ·rename_i b
  exact ⟨b, rfl, h.1, fun e => h.2 (by simp [e])⟩
 ·exact h.elim

theorem guardV_sound {ops : List Oper} {j : Nat} {want : Bool} {f g : List AV → AHeap → Prop} {a : List AV} {H : AHeap} (h : guardV (gval ops a j) want f g a H) :
  ∃ b, wantA ops a (some (j, want)) = some b ∧ (b = true → f a H) ∧ (b = false → g a H) := by
 have key : ∀ b, gval ops a j = .bool b → wantA ops a (some (j, want)) = some (b == want) := by
  intro b hb
  unfold gval at hb
  split at hb
  ·rename_i d hd
   simp only [wantA, hd, hb]
  ·cases hb
 unfold guardV at h
 split at h
 ·rename_i hb
  refine ⟨false, ?_, (fun e => by cases e), fun _ => h⟩
  unfold gval at hb
  split at hb
  ·rename_i d hd
   simp only [wantA, hd, hb]
  ·cases hb
 cases want with
 | true =>
  rw [if_pos rfl] at h
  obtain ⟨b, h1, h2, h3⟩ := branch_sound h
  exact ⟨b, by rw [key b h1]; simp, h2, h3⟩
 | false =>
  rw [if_neg (by simp)] at h
  obtain ⟨b, h1, h2, h3⟩ := branch_sound h
  refine ⟨!b, by rw [key b h1]; simp, fun e => h3 (by simpa using e), fun e => h2 (by simpa using e)⟩

theorem eops_sound {P : Program} {B : Nat} {w0 : World} {Y : Hand} {ops : Array Oper} (hY : YSound P B w0 Y) {E0 : Nat} {K : List AV → AHeap → Prop} {K' : Exit → Act → World → Prop} (rd : Option Nat) : ∀ (l : List Oper) (a : List AV) (H : AHeap) (μ : Nat → Nat × Nat) (Z : Nat → Nat → Prop) (w : World) (ca : Act),
  eops P B w0 Y ops.toList l K a H → R B w0 μ Z H w → AR E0 μ Z w H.length a ca →
  (∀ a' ca' μ' Z' H' w', R B w0 μ' Z' H' w' → AR E0 μ' Z' w' H'.length a' ca' → Ev μ Z H w μ' Z' H' w' → K a' H' → K' .normal ca' w') →
  wpListIn (FW rd) 0 P ops K' l ca w
 | [], a, H, μ, Z, w, ca, h, hR, hA, hK => hK a ca μ Z H w hR hA (Ev.refl μ Z H w) h
 | ⟨dst, op, ty, pos, af, none⟩ :: rest, a, H, μ, Z, w, ca, h, hR, hA, hK => by
  rw [eops_plain] at h
  have h := eop_sound h
  unfold wpListIn
  have hw : Region.wanted ⟨dst, op, ty, pos, af, none⟩ (yielded ops ca.tmps) = true := rfl
  rw [if_pos hw]
  refine lands_wp (aop_noDefer h) (aop_lands rd hY h hR hA.ev) ?_
  intro v cv μ' Z' H' w' k1 k2 k3 k4
  exact eops_sound hY rd rest _ H' μ' Z' w' _ k4 k1 ((hA.evolve hR k3).put dst k2) (fun a' ca' μ'' Z'' H'' w'' j1 j2 j3 j4 => hK a' ca' μ'' Z'' H'' w'' j1 j2 (k3.trans j3) j4)
 | ⟨dst, op, ty, pos, af, some (j, want)⟩ :: rest, a, H, μ, Z, w, ca, h, hR, hA, hK => by
  rw [eops_guard] at h
  obtain ⟨b, hb, h1, h2⟩ := guardV_sound h
  have hw := wanted_of (o := ⟨dst, op, ty, pos, af, some (j, want)⟩) rfl hb hA.tmps
  unfold wpListIn
  rw [hw]
  cases b with
  | true =>
   rw [if_pos rfl]
   have h := eop_sound (h1 rfl)
   refine lands_wp (aop_noDefer h) (aop_lands rd hY h hR hA.ev) ?_
   intro v cv μ' Z' H' w' k1 k2 k3 k4
   exact eops_sound hY rd rest _ H' μ' Z' w' _ k4 k1 ((hA.evolve hR k3).put dst k2) (fun a' ca' μ'' Z'' H'' w'' j1 j2 j3 j4 => hK a' ca' μ'' Z'' H'' w'' j1 j2 (k3.trans j3) j4)
  | false =>
   rw [if_neg (by simp)]
   exact ⟨fun _ _ => trivial, eops_sound hY rd rest _ H μ Z w _ (h2 rfl) hR (hA.put dst vrSkip) hK⟩

/-- The precondition, in a shape that is reckoned without going under a binder. -/
def eawp (P : Program) (B : Nat) (w0 : World) (rd : Option Nat) (Y : Hand) : Code → (Exit → List AV → AHeap → Prop) → List AV → AHeap → Prop
 | .skip, Q, a, H => Q .normal a H
 | .region _ ops false, Q, a, H => eops P B w0 Y ops.toList ops.toList (Q .normal) a H
 | .seq x y, Q, a, H => eawp P B w0 rd Y x (thenQ (eawp P B w0 rd Y y Q) Q) a H
 | .cond c x y, Q, a, H => branch (ev a c) (eawp P B w0 rd Y x Q) (eawp P B w0 rd Y y Q) a H
 | .block id c, Q, a, H => eawp P B w0 rd Y c (blockQ id Q) a H
 | .exit id, Q, a, H => Q (.exit id) a H
 | .ret, Q, a, H => Q .ret a H
 | c, Q, a, H => AWP P B w0 rd c Q a H

section
variable (P : Program) (B : Nat) (w0 : World) (rd : Option Nat) (Y : Hand) (Q : Exit → List AV → AHeap → Prop) (a : List AV) (H : AHeap) (x y c : Code) (id : Nat)
theorem eawp_skip : eawp P B w0 rd Y .skip Q a H = Q .normal a H := Eq.trans rfl rfl
theorem eawp_region (ops : Array Oper) : eawp P B w0 rd Y (.region id ops false) Q a H = eops P B w0 Y ops.toList ops.toList (Q .normal) a H := Eq.trans rfl rfl
theorem eawp_seq : eawp P B w0 rd Y (.seq x y) Q a H = eawp P B w0 rd Y x (thenQ (eawp P B w0 rd Y y Q) Q) a H := Eq.trans rfl rfl
theorem eawp_cond (t : Operand) : eawp P B w0 rd Y (.cond t x y) Q a H = branch (ev a t) (eawp P B w0 rd Y x Q) (eawp P B w0 rd Y y Q) a H := Eq.trans rfl rfl
theorem eawp_block : eawp P B w0 rd Y (.block id c) Q a H = eawp P B w0 rd Y c (blockQ id Q) a H := Eq.trans rfl rfl
theorem eawp_exit : eawp P B w0 rd Y (.exit id) Q a H = Q (.exit id) a H := Eq.trans rfl rfl
theorem eawp_ret : eawp P B w0 rd Y .ret Q a H = Q .ret a H := Eq.trans rfl rfl
theorem eawp_loop : eawp P B w0 rd Y (.loop c) Q a H = AWP P B w0 rd (.loop c) Q a H := Eq.trans rfl rfl
theorem thenQ_normal (n : List AV → AHeap → Prop) : thenQ n Q .normal a H = n a H := Eq.trans rfl rfl
theorem thenQ_exit (n : List AV → AHeap → Prop) (i : Nat) : thenQ n Q (.exit i) a H = Q (.exit i) a H := Eq.trans rfl rfl
theorem thenQ_ret (n : List AV → AHeap → Prop) : thenQ n Q .ret a H = Q .ret a H := Eq.trans rfl rfl
theorem blockQ_normal (i : Nat) : blockQ i Q .normal a H = Q .normal a H := Eq.trans rfl rfl
theorem blockQ_ret (i : Nat) : blockQ i Q .ret a H = Q .ret a H := Eq.trans rfl rfl
end

theorem eawp_sound {P : Program} {B : Nat} {w0 : World} {rd : Option Nat} {Y : Hand} (hY : YSound P B w0 Y) : ∀ (c : Code) (Q : Exit → List AV → AHeap → Prop) (a : List AV) (H : AHeap), eawp P B w0 rd Y c Q a H → AWP P B w0 rd c Q a H := by
 intro c
 induction c with
 | skip => intro Q a H h; exact AWP.skip h
 | region id ops draw =>
  intro Q a H h
  cases draw with
  | false =>
   intro E0 μ Z w ca h1 h2 h3
   refine wpIn_region_list (eops_sound hY _ ops.toList a H μ Z w ca h h1 h2 ?_)
   intro a' ca' μ' Z' H' w' k1 k2 k3 k4
   exact ⟨μ', Z', a', H', k1, k2, k3, k4⟩
  | true => exact h
 | seq x y ihx ihy => intro Q a H h; exact AWP.seq ((ihx _ a H h).mono (thenQ_mono fun a H h => ihy Q a H h))
 | cond c x y ihx ihy =>
  intro Q a H h
  obtain ⟨b, h1, h2, h3⟩ := branch_sound h
  exact AWP.cond h1 (fun e => ihx Q a H (h2 e)) (fun e => ihy Q a H (h3 e))
 | block id c ih => intro Q a H h; exact AWP.block (ih _ a H h)
 | exit id => intro Q a H h; exact AWP.exit h
 | ret => intro Q a H h; exact AWP.ret h
 | _ => intro Q a H h; exact h

/-- Heaps that keep what others know. -/
def Ext (H H' : AHeap) : Prop := H.length ≤ H'.length ∧ ∀ (id : Nat) (o : AObj), H[id]? = some o → H'[id]? = some o
theorem Ext.refl (H : AHeap) : Ext H H := ⟨Nat.le_refl _, fun _ _ h => h⟩
theorem Ext.trans {H H' H'' : AHeap} (h : Ext H H') (k : Ext H' H'') : Ext H H'' := ⟨Nat.le_trans h.1 k.1, fun id o ho => k.2 id o (h.2 id o ho)⟩
theorem Ext.push {H H' : AHeap} (h : Ext H H') (L : AHeap) : Ext H (H' ++ L) :=
 ⟨by rw [List.length_append]; have := h.1; omega, fun id o ho => by
  have := h.2 id o ho
  rw [List.getElem?_append_left (List.getElem?_eq_some_iff.1 this).1]; exact this⟩
theorem Ext.set {H H' : AHeap} (h : Ext H H') {i : Nat} (o : AObj) (hi : H.length ≤ i) : Ext H (H'.set i o) :=
 ⟨by rw [List.length_set]; exact h.1, fun id o' ho => by
  have hlt := (List.getElem?_eq_some_iff.1 ho).1
  rw [List.getElem?_set, if_neg (by omega)]; exact h.2 id o' ho⟩

/-- May a frozen slice be appended to, and does nobody of H own its end? -/
def Free (H0 H : AHeap) (tl : Tail) : Prop := tl = .full ∨ ∃ t, tl = .tok t ∧ H0.length ≤ t ∧ H[t]? = some .tok
theorem Free.full (H0 H : AHeap) : Free H0 H .full := .inl rfl

theorem AApp.go {P : Program} {t t2 : TypeId} {H0 H : AHeap} {K : AV → AHeap → Prop} {ti te : TyA} {e : TypeId} {z : AV} {sz : Nat} {es ys : List AV} {tl : Tail} {y : AV}
  (h1 : tyA P t = some ti) (h2 : ti.kind = .slice e) (h3 : tyA P e = some te) (h4 : te.zero = some z) (h5 : z.cells.length = te.size) (h6 : 0 < te.size) (h7 : srcA P te.size t2 y = some ys)
  (h8 : sz = te.size ∨ (es = [] ∧ tl = .full)) (h9 : (es.length + ys.length) * te.bytes ≤ 140737488355328) (h10 : es.length + ys.length ≤ 4611686018427387904) (hE : Ext H0 H) (hF : Free H0 H tl)
  (hK : ∀ tl' H', Ext H0 H' → Free H0 H' tl' → (∀ id o, tl ≠ .tok id → H[id]? = some o → H'[id]? = some o) → K (.dl te.size (es ++ ys) tl') H') : AApp P t t2 (.dl sz es tl) y H K := by
 refine ⟨ti, e, te, z, ys, sz, es, tl, h1, h2, h3, h4, h5, h6, .inl h7, rfl, h8, ?_, ?_⟩
 ·rintro rfl
  have := hK tl H hE hF (fun _ _ _ h => h)
  rwa [List.append_nil] at this
 ·intro _
  refine ⟨?_, h9, h10, hK (.tok H.length) (kill H tl ++ [.tok]) ?_ ?_ ?_⟩
  ·rcases hF with rfl | ⟨t, rfl, _, h⟩
   ·trivial
   ·exact h
  ·rcases hF with rfl | ⟨t, rfl, ht, h⟩
   ·exact hE.push _
   ·exact (hE.set .dead ht).push _
  ·refine .inr ⟨H.length, rfl, hE.1, ?_⟩
   have hl : (kill H tl).length = H.length := by cases tl <;> simp [kill]
   rw [← hl]; simp
  ·intro id o hne ho
   have hlt := (List.getElem?_eq_some_iff.1 ho).1
   have hl : (kill H tl).length = H.length := by cases tl <;> simp [kill]
   rw [List.getElem?_append_left (by omega)]
   cases tl with
   | tok t => simp only [kill]; rw [List.getElem?_set, if_neg (fun e => hne (by rw [e]))]; exact ho
   | _ => exact ho

theorem ACall.mono {P : Program} {B : Nat} {w0 : World} {f : FuncId} {args : List AV} {H : AHeap} {K K' : AV → AHeap → Prop} (h : ACall P B w0 f args H K) (hK : ∀ v H', K v H' → K' v H') : ACall P B w0 f args H K' :=
 ⟨h.1, fun μ Z w cargs h1 h2 => (h.2 μ Z w cargs h1 h2).mono (by
  rintro e w' ⟨v, cv, μ', Z', H', q1, q2, q3, q4, q5⟩
  exact ⟨v, cv, μ', Z', H', q1, q2, q3, q4, hK _ _ q5⟩)⟩
theorem ACall.wk {P : Program} {B : Nat} {w0 : World} {f : FuncId} {args args' : List AV} {H : AHeap} {K : AV → AHeap → Prop} (h : ACall P B w0 f args H K) (hw : Wk args args') : ACall P B w0 f args' H K :=
 ⟨h.1, fun μ Z w cargs h1 h2 => h.2 μ Z w cargs h1 (h2.weak hw)⟩

theorem blockQ_exit (id i : Nat) (Q : Exit → List AV → AHeap → Prop) (a : List AV) (H : AHeap) : blockQ id Q (.exit i) a H = if i = id then Q .normal a H else Q (.exit i) a H := Eq.trans rfl rfl
theorem bodyQ_ret (P : Program) (fn : Func) (K : AV → AHeap → Prop) (a : List AV) (H : AHeap) : bodyQ P fn K .ret a H = someK (resA P H a fn.results.toList) K H := Eq.trans rfl rfl
theorem bodyQ_normal (P : Program) (fn : Func) (K : AV → AHeap → Prop) (a : List AV) (H : AHeap) : bodyQ P fn K .normal a H = someK (resA P H a fn.results.toList) K H := Eq.trans rfl rfl

theorem Br.go {p : Prop} {f g : List AV → AHeap → Prop} {a : List AV} {H : AHeap} (h1 : p → f a H) (h2 : ¬ p → g a H) : Br p (later f a H) (later g a H) := ⟨h1, h2⟩
theorem AppE.go {P : Program} {t t2 : TypeId} {H0 H : AHeap} {K : AV → AHeap → Prop} {ti te : TyA} {e : TypeId} {z : AV} {sz : Nat} {es ys : List AV} {tl : Tail} {y : AV}
  (h1 : tyA P t = some ti) (h2 : ti.kind = .slice e) (h3 : tyA P e = some te) (h4 : te.zero = some z) (h5 : z.cells.length = te.size) (h6 : 0 < te.size) (h7 : srcA P te.size t2 y = some ys)
  (h8 : sz = te.size ∨ (es = [] ∧ tl = .full)) (h9 : (es.length + ys.length) * te.bytes ≤ 140737488355328) (h10 : es.length + ys.length ≤ 4611686018427387904) (hE : Ext H0 H) (hF : Free H0 H tl)
  (hK : ∀ tl' H', Ext H0 H' → Free H0 H' tl' → (∀ id o, tl ≠ .tok id → H[id]? = some o → H'[id]? = some o) → K (.dl te.size (es ++ ys) tl') H') : AppE P t t2 (.dl sz es tl) y H K :=
 ⟨y, wkD.refl y, .inl (AApp.go h1 h2 h3 h4 h5 h6 h7 h8 h9 h10 hE hF hK)⟩
theorem AppE.mut {P : Program} {t t2 : TypeId} {H : AHeap} {K : AV → AHeap → Prop} {ti te : TyA} {e : TypeId} {z : AV} {sz : Nat} {ys : List AV} {y : AV}
  (h1 : tyA P t = some ti) (h2 : ti.kind = .slice e) (h3 : tyA P e = some te) (h4 : te.zero = some z) (h5 : z.cells.length = te.size) (h6 : 0 < te.size) (h7 : srcA P te.size t2 y = some ys) (h8 : ys ≠ [])
  (h9 : ys.length * te.bytes ≤ 140737488355328) (h10 : ys.length ≤ 4611686018427387904) (hK : K (.sl te.size H.length 0 ys.length) (H ++ [.cells (flat ys)])) : AppE P t t2 (.dl sz [] .full) y H K :=
 ⟨y, wkD.refl y, .inr (.inl ⟨ti, e, te, z, ys, sz, h1, h2, h3, h4, h5, h6, .inl h7, rfl, h8, h9, h10, hK⟩)⟩

section
variable (P : Program) (B : Nat) (w0 : World) (Y : Hand) (a : List AV) (H : AHeap) (K : AV → AHeap → Prop) (t t2 : TypeId) (x y c : Operand)
theorem eop_move : eop P B w0 Y a H (.move x) K = K (ev a x) H := Eq.trans rfl rfl
theorem eop_assign : eop P B w0 Y a H (.assign x) K = K (ev a x) H := Eq.trans rfl rfl
theorem eop_pick : eop P B w0 Y a H (.pick c x y) K = someK (pickA (ev a c) (ev a x) (ev a y)) K H := Eq.trans rfl rfl
theorem eop_binOp (op : BinOp) : eop P B w0 Y a H (.binOp op t x y t2) K = binE P H K op t (ev a x) (ev a y) (isNil y) (isNe op) := Eq.trans rfl rfl
theorem eop_unOp (op : UnOp) : eop P B w0 Y a H (.unOp op t x) K = someK (unA op (ev a x)) K H := Eq.trans rfl rfl
theorem eop_convert : eop P B w0 Y a H (.convert t t2 x) K = someK (convB P t t2 (ev a x)) K H := Eq.trans rfl rfl
theorem eop_makeFunc (k : Nat) (f g : Array Operand) : eop P B w0 Y a H (.makeFunc (.func k) f g) K = K (.fn (.func k) (f.toList.map (ev a)) (g.toList.map (ev a))) H := Eq.trans rfl rfl
theorem eop_fieldAddr (f : Nat) : eop P B w0 Y a H (.fieldAddr t x f) K = someK (fieldAddrA P t (ev a x) f) K H := Eq.trans rfl rfl
theorem eop_field (f : Nat) : eop P B w0 Y a H (.field t x f) K = someK (fieldA P t (ev a x) f) K H := Eq.trans rfl rfl
theorem eop_indexAddr : eop P B w0 Y a H (.indexAddr t x y) K = someK (indexAddrA P t (ev a x) (ev a y)) K H := Eq.trans rfl rfl
theorem eop_index : eop P B w0 Y a H (.index t x y) K = someK (indexA P t (ev a x) (ev a y)) K H := Eq.trans rfl rfl
theorem eop_slice (lo hi mx : Option Operand) : eop P B w0 Y a H (.slice t x lo hi mx) K = someK (sliceA P t (ev a x) (lo.map (ev a)) (hi.map (ev a)) (mx.map (ev a))) K H := Eq.trans rfl rfl
theorem eop_extract (i : Nat) : eop P B w0 Y a H (.extract x i) K = someK (extractA (ev a x) i) K H := Eq.trans rfl rfl
theorem eop_nilCheck : eop P B w0 Y a H (.nilCheck x) K = someK (nilCheckA (ev a x)) K H := Eq.trans rfl rfl
theorem eop_build (ps : Array (Nat × Operand)) : eop P B w0 Y a H (.build t ps) K = someK (buildA P t (ps.toList.map fun p => (p.1, ev a p.2))) K H := Eq.trans rfl rfl
theorem eop_load : eop P B w0 Y a H (.load t x) K = someK ((cellsAt H (ev a x)).bind (loadA P t)) K H := Eq.trans rfl rfl
theorem eop_makeSlice (l c : Operand) : eop P B w0 Y a H (.makeSlice t l c) K = MakeQ P t (ev a l) (ev a c) H K := Eq.trans rfl rfl
theorem eop_buildSlice (n : Nat) (ps : Array (Nat × Operand)) : eop P B w0 Y a H (.buildSlice t n ps) K = someK2 (effV P a H (.buildSlice t n ps)) K := Eq.trans rfl rfl
theorem eop_store : eop P B w0 Y a H (.store t x y) K = StoE P t (ev a x) (ev a y) H K := Eq.trans rfl rfl
theorem eop_call (cl : Call) : eop P B w0 Y a H (.call cl) K = callE P B w0 Y a H K cl.callee cl.args.toList cl.argTypes.toList := Eq.trans rfl rfl
theorem callE_value (f : Operand) (args : List Operand) (ts : List TypeId) : callE P B w0 Y a H K (.value f) args ts = callV P B w0 Y (args.map (ev a)) H K (ev a f) := by simp only [callE]
theorem callE_append : callE P B w0 Y a H K (.builtin .append) [x, y] [t, t2] = AppE P t t2 (ev a x) (ev a y) H K := Eq.trans rfl rfl
theorem callE_clear : callE P B w0 Y a H K (.builtin .clear) [x] [t] = Clr P t (ev a x) H K := Eq.trans rfl rfl
theorem callE_len : callE P B w0 Y a H K (.builtin .len) [x] [t] = someK (lenA P H t (ev a x)) K H := Eq.trans rfl rfl
theorem callE_cap : callE P B w0 Y a H K (.builtin .cap) [x] [t] = someK (capA P t (ev a x)) K H := Eq.trans rfl rfl
theorem callE_min (ts : List TypeId) : callE P B w0 Y a H K (.builtin .min) [x, y] ts = someK (minA (ev a x) (ev a y)) K H := by simp only [callE]
theorem callE_max (ts : List TypeId) : callE P B w0 Y a H K (.builtin .max) [x, y] ts = someK (maxA (ev a x) (ev a y)) K H := by simp only [callE]
theorem callV_func (args : List AV) (k : Nat) (f g : List AV) : callV P B w0 Y args H K (.fn (.func k) f g) = ACall P B w0 k (f ++ args ++ g) H K := Eq.trans rfl rfl
theorem callV_yield (args : List AV) (l : Nat) : callV P B w0 Y args H K (.fn (.yield l) [] []) = Y l args H K := Eq.trans rfl rfl
theorem binE_plain (op : BinOp) (u v : AV) (o : Option Bool) : binE P H K op t u v false o = someK (binA P op t u v) K H := by simp only [binE]
theorem binE_none (op : BinOp) (u v : AV) (b : Bool) : binE P H K op t u v b none = someK (binA P op t u v) K H := by cases b <;> simp only [binE]
theorem binE_nil (op : BinOp) (u v : AV) (ne : Bool) : binE P H K op t u v true (some ne) = (isSliceT P t = true ∧ NilE ne H K u) := Eq.trans rfl rfl
end
end Go.Av
end
