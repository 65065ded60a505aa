/- the layer over the model, part 11 -/
import Derived.Test.YtahhhfgmcdajhaaA10
set_option autoImplicit false
set_option linter.unusedSimpArgs false
set_option linter.unusedVariables false
set_option linter.unnecessarySimpa false
section
set_option linter.unusedSimpArgs false
set_option linter.unusedVariables false
namespace Go.Av
open Go.RowKit

/-! ### ways that part, as the pure function parts -/
section
variable {α : Type} {f g : List AV → AHeap → Prop} {a : List AV} {H : AHeap} {r : α} {A C : Option α}
theorem Br.iteB {b : Bool} (hg : (if b = true then A else C) = some r) (h1 : b = true → A = some r → f a H) (h2 : b = false → C = some r → g a H) : Br (b = true) (later f a H) (later g a H) :=
 ⟨fun h => h1 h (by rwa [if_pos h] at hg), fun h => h2 (Bool.eq_false_iff.2 h) (by rwa [if_neg h] at hg)⟩
theorem Br.iteP {p : Prop} [Decidable p] (hg : (if p then A else C) = some r) (h1 : (p = True) → A = some r → f a H) (h2 : (p = False) → C = some r → g a H) : Br p (later f a H) (later g a H) :=
 ⟨fun h => h1 (eq_true h) (by rwa [if_pos h] at hg), fun h => h2 (eq_false h) (by rwa [if_neg h] at hg)⟩
end
/-- an element, under its bounds -/
theorem getD_enc {α : Type} [Inhabited α] (f : α → AV) (l : List α) (i : Int) (h0 : 0 ≤ i) (h1 : i < (l.length : Int)) : List.getD (List.map f l) (Int.toNat i) AV.undef = f (rd l i) := rd_map f ⟨h0, h1⟩
theorem getD_enc0 {α : Type} [Inhabited α] (f : α → AV) (l : List α) (h : (0 : Int) < (l.length : Int)) : List.getD (List.map f l) 0 AV.undef = f (rd l 0) := rd_map f ⟨Int.le_refl _, h⟩
theorem map_app {α : Type} (f : α → AV) (l l' : List α) : List.map f l ++ List.map f l' = List.map f (l ++ l') := List.map_append.symm

/-! ### append -/
section
variable {P : Program} {B : Nat} {w0 : World} {H : AHeap} {K : AV → AHeap → Prop} {L L' : List Item} {t t2 : TypeId} {sz n : Nat} {y : AV} {α : Type} {enc : α → AV}
theorem app_nil {s : Nat} {ys : List α} (hT : AppTy P t sz n) (hy : AppSrc P t2 sz y (List.map enc ys)) (hS : Hv H L) (hlen : ys.length ≤ n) (hK : ∀ (tl' : Tail) (H' : AHeap), Hv H' (.tl tl' :: L) → K (.dl sz (List.map enc ys) tl') H') : AppE P t t2 (.dl s [] .full) y H K :=
 app_raw hT hy (by simpa using hlen) (hS.free (x := .tl .full) (.inl rfl) rfl) (.inr ⟨rfl, rfl⟩) hK
theorem app_map {l ys : List α} {tl : Tail} (hT : AppTy P t sz n) (hy : AppSrc P t2 sz y (List.map enc ys)) (hp : Pull L (.tl tl) L') (hS : Hv H L) (hlen : l.length + ys.length ≤ n) (hK : ∀ (tl' : Tail) (H' : AHeap), Hv H' (.tl tl' :: L') → K (.dl sz (List.map enc (l ++ ys)) tl') H') : AppE P t t2 (.dl sz (List.map enc l) tl) y H K := by
 refine app_raw hT hy (by simpa using hlen) (hS.pull hp) (.inl rfl) fun tl' H' h => ?_
 have := hK tl' H' h
 rwa [List.map_append] at this
/-- encoders of one cell -/
def OneC (enc : α → AV) : Prop := ∀ x, (enc x).cells = [enc x]
/-- encoders of so many cells -/
def SzC (sz : Nat) (enc : α → AV) : Prop := ∀ x, (enc x).cells.length = sz
theorem OneC.toSz {enc : α → AV} (h : OneC enc) : SzC 1 enc := fun x => by rw [h]; rfl
theorem SzC.flat {enc : α → AV} (h : SzC sz enc) (l : List α) : (flat (List.map enc l)).length = l.length * sz := by
 rw [flat_length (fun e he => by obtain ⟨x, _, rfl⟩ := List.mem_map.1 he; exact h x), List.length_map]
end

/-! ### slots of a loop's activation -/
inductive Slot where
 | d
 | k
 | p (v : AV)
def applyS : List Slot → List AV → List AV
 | .d :: s, _ :: a => .undef :: applyS s a
 | .k :: s, x :: a => x :: applyS s a
 | .p v :: s, _ :: a => v :: applyS s a
 | _, a => a
theorem applyS_d (s : List Slot) (x : AV) (a : List AV) : applyS (.d :: s) (x :: a) = .undef :: applyS s a := Eq.trans rfl rfl
theorem applyS_k (s : List Slot) (x : AV) (a : List AV) : applyS (.k :: s) (x :: a) = x :: applyS s a := Eq.trans rfl rfl
theorem applyS_p (s : List Slot) (v x : AV) (a : List AV) : applyS (.p v :: s) (x :: a) = v :: applyS s a := Eq.trans rfl rfl
theorem applyS_nil (a : List AV) : applyS [] a = a := by cases a <;> rfl
/-- The activation at a round's end says all that the slots say over the one at the loop's head. -/
def W2 (s : List Slot) (a a' : List AV) : Prop := Wk (applyS s a) a'
theorem W2.nil : W2 [] [] [] := trivial
theorem W2.d {s : List Slot} {x y : AV} {a a' : List AV} (h : W2 s a a') : W2 (.d :: s) (x :: a) (y :: a') := Wk.u h
theorem W2.k {s : List Slot} {x : AV} {a a' : List AV} (h : W2 s a a') : W2 (.k :: s) (x :: a) (x :: a') := Wk.r h
theorem W2.p {s : List Slot} {v x : AV} {a a' : List AV} (h : W2 s a a') : W2 (.p v :: s) (x :: a) (v :: a') := Wk.r h
theorem W2.pw {s : List Slot} {v x y : AV} {a a' : List AV} (hv : wkV v y) (h : W2 s a a') : W2 (.p v :: s) (x :: a) (y :: a') := Wk.cons hv h
/-- A loop, out of the pure loop. -/
theorem AWP.loopE {P : Program} {B : Nat} {w0 : World} {rd : Option Nat} {σ ρ : Type} {c : Code} {Q : Exit → List AV → AHeap → Prop} {a : List AV} {H : AHeap} {L : List Item} {n : Nat} {r : ρ} (s0 : σ) (F : Nat → σ → Option ρ) (sl : σ → List Slot) (it : σ → List Item)
  (hg : F n s0 = some r) (h0 : W2 (sl s0) a a) (hS : Hv H L) (hN : Need (it s0) L) (zero : ∀ s, F 0 s = none)
  (round : ∀ (k : Nat) (s : σ) (H' : AHeap), F (k + 1) s = some r → Hv H' (it s) →
   AWP P B w0 rd c (thenQ (fun a' H'' => ∃ s' L', W2 (sl s') a a' ∧ F k s' = some r ∧ Hv H'' L' ∧ Need (it s') L') Q) (applyS (sl s) a) H') : AWP P B w0 rd (.loop c) Q a H := by
 refine AWP.loop (σ := Nat × σ) (fun s => applyS (sl s.2) a) (fun s H' => F s.1 s.2 = some r ∧ ∃ H'', WkH H'' H' ∧ Hv H'' (it s.2)) (fun s => s.1) ⟨(n, s0), h0, hg, ?_⟩ ?_
 ·obtain ⟨H', h1, h2, _⟩ := hN.st hS
  exact ⟨H', h1, h2⟩
 rintro ⟨k, s⟩ H' ⟨h1, H'', hw, h2⟩ _
 cases k with
 | zero => simp only [zero] at h1; cases h1
 | succ k =>
  refine (AWP.wkH hw (round k s H'' h1 h2)).mono fun e a' H3 h => ?_
  cases e with
  | normal =>
   obtain ⟨s', L', q1, q2, q3, q4⟩ := h
   obtain ⟨H4, h4, h5, _⟩ := q4.st q3
   exact ⟨(k, s'), q1, ⟨q2, H4, h4, h5⟩, Nat.lt_succ_self _⟩
  | _ => exact h
/-- A call, where less is said of what is held. -/
theorem ACall.wkN {P : Program} {B : Nat} {w0 : World} {f : FuncId} {args args' : List AV} {H : AHeap} {K : AV → AHeap → Prop} {N L : List Item} (h : ∀ H', Hv H' N → ACall P B w0 f args H' K) (hw : WkA args args') (hS : Hv H L) (hN : Need N L) : ACall P B w0 f args' H K := by
 obtain ⟨H', h1, h2, _⟩ := hN.st hS
 exact (ACall.wkH h1 (h H' h2)).wkA hw
/-- What a function comes to. -/
def RetK (K : AV → AHeap → Prop) : AV → AHeap → Prop := fun v H => ∃ v' H', wkR v' v ∧ WkH H' H ∧ K v' H'
theorem ACall.ret {P : Program} {B : Nat} {w0 : World} {f : FuncId} {args : List AV} {H : AHeap} {K : AV → AHeap → Prop} (h : ACall P B w0 f args H (RetK K)) : ACall P B w0 f args H K := by
 refine ACall.wkR (ACall.wkE (h.mono ?_))
 rintro v H' ⟨v', H'', h1, h2, h3⟩
 exact ⟨H'', h2, v', h1, h3⟩
theorem RetK.go {K : AV → AHeap → Prop} {v v' : AV} {H : AHeap} {N L : List Item} (h : ∀ H', Hv H' N → K v' H') (hw : wkR v' v) (hS : Hv H L) (hN : Need N L) : RetK K v H := by
 obtain ⟨H', h1, h2, _⟩ := hN.st hS
 exact ⟨v', H', hw, h1, h H' h2⟩
end Go.Av
namespace Go.Av
open Go.RowKit
/-! ### by place -/
section
variable {P : Program} {B : Nat} {w0 : World} {Y : Hand} {a a0 : List AV} {H : AHeap} {L L' : List Item} {ops rest : List Oper} {K0 : List AV → AHeap → Prop}
end
/-- where a value goes -/
def AtD (d : Nat) (K : AV → AHeap → Prop) : Prop := (∃ P B w0 Y ops rest K0 a0, K = eopsK P B w0 Y ops rest K0 (some d) a0) ∨ ∃ K0 a0, K = opC K0 (some d) a0
theorem AtD.e {P : Program} {B : Nat} {w0 : World} {Y : Hand} {a0 : List AV} {ops rest : List Oper} {K0 : List AV → AHeap → Prop} {d : Nat} : AtD d (eopsK P B w0 Y ops rest K0 (some d) a0) := .inl ⟨P, B, w0, Y, ops, rest, K0, a0, rfl⟩
theorem AtD.o {a0 : List AV} {K0 : List AV → AHeap → Prop} {d : Nat} : AtD d (opC K0 (some d) a0) := .inr ⟨K0, a0, rfl⟩
/-- A range over a function. -/
theorem Ext.none (H : AHeap) : Ext [] H := ⟨Nat.zero_le _, fun _ _ h => by simp at h⟩
end Go.Av
namespace Go.Av
open Go.RowKit
/-- asked, and said as it is held -/
inductive Need0 : List Item → List Item → Prop
 | done {l : List Item} : Need0 l l
 | take {x : Item} {h h' n : List Item} (p : Pull h x h') (k : Need0 n h') : Need0 (x :: n) h
 | drop {x : Item} {h n : List Item} (k : Need0 n h) : Need0 n (x :: h)
 | full {h n : List Item} (k : Need0 n h) : Need0 (.tl .full :: n) h
 | own {sz id len : Nat} {cs : List AV} {h h' n : List Item} (p : Pull h (.obj id (.cells cs)) h') (hl : cs.length = len * sz) (k : Need0 n h') : Need0 (.own sz (.sl sz id 0 len) cs :: n) h
 | own0 {sz s : Nat} {h n : List Item} (k : Need0 n h) : Need0 (.own sz (.dl s [] .full) [] :: n) h
theorem Need0.st {n h : List Item} (k : Need0 n h) : ∀ {H : AHeap}, Hv H h → Hv H n ∧ idsIn n h := by
 induction k with
 | done => exact fun {H} hs => ⟨hs, fun y hy i hi => ⟨y, hy, hi⟩⟩
 | take p k ih =>
  intro H hs
  have hp := hs.pull p
  obtain ⟨h2, h3⟩ := ih hp.drop
  exact ⟨hp.cons h2 h3, h3.cons p (fun _ h => h)⟩
 | drop k ih =>
  intro H hs
  obtain ⟨h2, h3⟩ := ih hs.drop
  exact ⟨h2, h3.drop⟩
 | full k ih =>
  intro H hs
  obtain ⟨h2, h3⟩ := ih hs
  exact ⟨h2.free (.inl rfl) rfl, h3.none rfl⟩
 | @own sz id len cs h h' n p hl k ih =>
  intro H hs
  have hp := hs.pull p
  have hp2 := hp.as (y := .own sz (.sl sz id 0 len) cs) (.inr ⟨_, _, rfl, hl, hp.each (.obj _ _) (List.mem_cons_self ..)⟩) (fun i hi => hi)
  obtain ⟨h2, h3⟩ := ih hp.drop
  exact ⟨hp2.cons h2 h3, h3.cons p (fun _ h => h)⟩
 | own0 k ih =>
  intro H hs
  obtain ⟨h2, h3⟩ := ih hs
  exact ⟨h2.free (.inl ⟨_, rfl, rfl⟩) rfl, h3.none rfl⟩
theorem Hv.need0 {H : AHeap} {n h : List Item} (hs : Hv H h) (k : Need0 n h) : Hv H n := (k.st hs).1
theorem AWP.wkN {P : Program} {B : Nat} {w0 : World} {rd : Option Nat} {c : Code} {Q : Exit → List AV → AHeap → Prop} {a : List AV} {H : AHeap} {N L : List Item} (hS : Hv H L) (hN : Need N L) (h : ∀ H', Hv H' N → AWP P B w0 rd c Q a H') : AWP P B w0 rd c Q a H := by
 obtain ⟨H', h1, h2, _⟩ := hN.st hS
 exact AWP.wkH h1 (h H' h2)
section
variable {P : Program} {H : AHeap} {K : AV → AHeap → Prop} {L L' : List Item}
/-- a store into a list of one-cell elements -/
theorem stoL {α : Type} (enc : α → AV) {t : TypeId} {y : AV} {te : TyA} {id off : Nat} {l : List α} {v : α} (ht : tyA P t = some te) (hp : Pull L (.obj id (.cells (List.map enc l))) L') (hS : Hv H L) (h6 : te.size = 1) (hv : wkD (enc v) y) (hc : OneC enc) (hk : ∀ x, okCells (enc x) = true) (_ : te.size = 1) (hl : off < l.length)
  (hK : ∀ (H' : AHeap), Hv H' (.obj id (.cells (List.map enc (l.set off v))) :: L') → K .undef H') : StoE P t (.ptr id off) y H K := by
 refine sto_goW ht hv hp hS (hk v) (by rw [hc, h6]; rfl) (by rw [h6, List.length_map]; omega) ?_
 intro H' h
 have e : putA (List.map enc l) off (enc v).cells = List.map enc (l.set off v) := by
  simp only [putA, hc v, List.length_singleton, List.map_set]
  rw [List.set_eq_take_append_cons_drop, if_pos (by simpa using hl)]
  simp
 rw [e] at h
 exact hK H' h
end
theorem putA_nil (off : Nat) (v : AV) (vs : List AV) : putA [] off (v :: vs) = v :: vs := by simp [putA]
theorem putA_0 (c : AV) (cs : List AV) (vs : List AV) : putA (c :: cs) 0 vs = vs ++ (c :: cs).drop vs.length := by simp [putA]
theorem putA_s (c : AV) (cs : List AV) (off : Nat) (vs : List AV) : putA (c :: cs) (off + 1) vs = c :: putA cs off vs := by
 simp only [putA, List.take_succ_cons, List.cons_append, show off + 1 + vs.length = (off + vs.length) + 1 by omega, List.drop_succ_cons]
end Go.Av
namespace Go.Av
section
variable {P : Program} {B : Nat} {w0 : World} {rd : Option Nat} {Y : Hand} {a : List AV} {H : AHeap} {K : AV → AHeap → Prop} {Q : Exit → List AV → AHeap → Prop} {args : List AV} {x y : AV}
theorem atF (k : Nat) (h : ACall P B w0 k args H K) : ACall P B w0 k args H K := h
theorem atSto (t : Nat) (h : StoE P t x y H K) : StoE P t x y H K := h
theorem atLoop {c : Code} (h : AWP P B w0 rd (.loop c) Q a H) : AWP P B w0 rd (.loop c) Q a H := h
theorem atRange {g : Operand} {ps : Array Tmp} {u v : Code} (h : AWP P B w0 rd (.rangeFunc g ps u v) Q a H) : AWP P B w0 rd (.rangeFunc g ps u v) Q a H := h
theorem atDraw (id : Nat) {ops : Array Oper} (h : AWP P B w0 rd (.region id ops true) Q a H) : AWP P B w0 rd (.region id ops true) Q a H := h
theorem atEx {σ : Type} {p : σ → Prop} (h : ∃ s, p s) : ∃ s, p s := h
theorem atRet (h : RetK K x H) : RetK K x H := h
end
theorem pickL {ρ : Type} {x y : Option ρ} {r : ρ} {G : Prop} (_ : x = some r) (_ : x = y) (h : G) : G := h
end Go.Av
namespace Go.Av
theorem branchB {α : Type} {f g : List AV → AHeap → Prop} {a : List AV} {H : AHeap} {r : α} {A C : Option α} {b : Bool} (hg : (if b = true then A else C) = some r) (h1 : b = true → A = some r → f a H) (h2 : b = false → C = some r → g a H) : branch (.bool b) f g a H := by
 cases b with
 | true => rw [branch_true]; exact h1 rfl (by simpa using hg)
 | false => rw [branch_false]; exact h2 rfl (by simpa using hg)
theorem head_enc0 {α : Type} [Inhabited α] (f : α → AV) (l : List α) (h : 0 < l.length) : (List.map f l).head? = some (f (rdn l 0)) := rdn_map0 f h
end Go.Av
namespace Go.Av
theorem take_enc {α : Type} (f : α → AV) (l : List α) (i : Nat) : List.take i (List.map f l) = List.map f (List.take i l) := List.map_take.symm
theorem drop_enc {α : Type} (f : α → AV) (l : List α) (i : Nat) : List.drop i (List.map f l) = List.map f (List.drop i l) := List.map_drop.symm
end Go.Av
namespace Go.Av
theorem head_enc2 {α : Type} [Inhabited α] (f : α → AV) (l : List α) (i : Nat) (h : i < l.length) : (List.map f (List.drop i l)).head? = some (f (rdn l i)) := by rw [List.map_drop]; exact rdn_map f h
end Go.Av
namespace Go.Av
theorem Br_true {f g : List AV → AHeap → Prop} {a : List AV} {H : AHeap} : Br True (later f a H) (later g a H) = f a H := propext ⟨fun h => h.1 trivial, fun h => ⟨fun _ => h, fun k => absurd trivial k⟩⟩
theorem Br_false {f g : List AV → AHeap → Prop} {a : List AV} {H : AHeap} : Br False (later f a H) (later g a H) = g a H := propext ⟨fun h => h.2 id, fun h => ⟨False.elim, fun _ => h⟩⟩
end Go.Av
namespace Go.Av
theorem noneE {ρ : Type} {r : ρ} {G : Prop} (h : (none : Option ρ) = some r) : G := by cases h
end Go.Av
namespace Go.Av
open Go.RowKit
/-- where a value goes -/
def kAt (_ : Option Tmp) (K : AV → AHeap → Prop) : AV → AHeap → Prop := K
theorem kAt_eq (d : Option Tmp) (K : AV → AHeap → Prop) (v : AV) (H : AHeap) : kAt d K v H = K v H := Eq.trans rfl rfl
section
variable {P : Program} {B : Nat} {w0 : World} {Y : Hand} {ops rest : List Oper} {a : List AV} {H : AHeap} {op : Op} {dst : Option Tmp} {ty : TypeId} {pos : String} {af : Array Edge} {K : List AV → AHeap → Prop}
theorem eops_plainA : eops P B w0 Y ops (⟨dst, op, ty, pos, af, none⟩ :: rest) K a H = eop P B w0 Y a H op (kAt dst (eopsK P B w0 Y ops rest K dst a)) := Eq.trans rfl rfl
theorem eopR_eqA : eopR P B w0 Y ops rest K op dst a H = eop P B w0 Y a H op (kAt dst (eopsK P B w0 Y ops rest K dst a)) := Eq.trans rfl rfl
theorem opK_plainA : opK P B w0 Y ops ⟨dst, op, ty, pos, af, none⟩ K a H = eop P B w0 Y a H op (kAt dst (opC K dst a)) := Eq.trans rfl rfl
theorem opT_eqA : opT P B w0 Y K op dst a H = eop P B w0 Y a H op (kAt dst (opC K dst a)) := Eq.trans rfl rfl
end
section
variable {P : Program} {B : Nat} {w0 : World} {Y : Hand} {a : List AV} {H : AHeap} {K : AV → AHeap → Prop} {args : List AV} {x y : AV}
theorem atAlloc2 (t d : Nat) (h : eop P B w0 Y a H (.alloc t) (kAt (some d) K)) : eop P B w0 Y a H (.alloc t) (kAt (some d) K) := h
theorem atBox2 (d : Nat) (h : boxE x H (kAt (some d) K)) : boxE x H (kAt (some d) K) := h
theorem atAppE2 {t t2 : TypeId} (d : Nat) (h : AppE P t t2 x y H (kAt (some d) K)) : AppE P t t2 x y H (kAt (some d) K) := h
theorem atCall2 (k d : Nat) (h : ACall P B w0 k args H (kAt (some d) K)) : ACall P B w0 k args H (kAt (some d) K) := h
end
end Go.Av
namespace Go.Av
theorem wkN0 {α : Type} (enc : α → AV) (s s' : Nat) (tl : Tail) : wkV (.dl s (List.map enc ([] : List α)) .none) (.dl s' [] tl) := wkV.nil s s' tl
end Go.Av
namespace Go.Av
open Go.RowKit
def lenTs (o : Option TyA) (len : Nat) : Option AV := match o with
 | some ti => match ti.kind with
  | .slice _ => some (.int .i64 len)
  | .array n _ => some (.int .i64 n)
  | _ => none
 | none => none
theorem lenA_dl (P : Program) (H : AHeap) (t : TypeId) (sz : Nat) (es : List AV) (tl : Tail) : lenA P H t (.dl sz es tl) = lenTs (tyA P t) es.length := by
 unfold lenA lenTs; cases tyA P t with
 | none => rfl
 | some ti => simp only; cases ti.kind <;> rfl
theorem lenA_sl (P : Program) (H : AHeap) (t : TypeId) (sz id off len : Nat) : lenA P H t (.sl sz id off len) = lenTs (tyA P t) len := by
 unfold lenA lenTs; cases tyA P t with
 | none => rfl
 | some ti => simp only; cases ti.kind <;> rfl
def lenStr (o : Option TyA) (len : Nat) : Option AV := match o with
 | some ti => match ti.kind with
  | .str => some (.int .i64 len)
  | .array n _ => some (.int .i64 n)
  | _ => none
 | none => none
theorem lenA_str (P : Program) (H : AHeap) (t : TypeId) (s : List UInt8) : lenA P H t (.str s) = lenStr (tyA P t) s.length := by
 unfold lenA lenStr; cases tyA P t with
 | none => rfl
 | some ti => simp only; cases ti.kind <;> rfl
def idxD (P : Program) (o : Option TyA) (sz : Nat) (es : List AV) (n : Int) : Option AV := match o with
 | some ti => match ti.kind with
  | .slice e => match tyA P e with
   | some te => if 0 ≤ n ∧ n < es.length ∧ sz = te.size then some (.dp (es.getD n.toNat .undef).cells 0) else none
   | none => none
  | _ => none
 | none => none
theorem idxA_dl (P : Program) (t : TypeId) (sz : Nat) (es : List AV) (tl : Tail) (k : IntKind) (n : Int) : indexAddrA P t (.dl sz es tl) (.int k n) = idxD P (tyA P t) sz es n := by
 unfold indexAddrA idxD; cases tyA P t with
 | none => rfl
 | some ti =>
  simp only
  cases ti.kind with
  | array m e => simp only; cases tyA P e <;> simp [plus]
  | _ => rfl
def idxS (P : Program) (o : Option TyA) (sz id off len : Nat) (n : Int) : Option AV := match o with
 | some ti => match ti.kind with
  | .slice e => match tyA P e with
   | some te => if 0 ≤ n ∧ n < len ∧ sz = te.size then some (.ptr id (off + n.toNat * sz)) else none
   | none => none
  | _ => none
 | none => none
theorem idxA_sl (P : Program) (t : TypeId) (sz id off len : Nat) (k : IntKind) (n : Int) : indexAddrA P t (.sl sz id off len) (.int k n) = idxS P (tyA P t) sz id off len n := by
 unfold indexAddrA idxS; cases tyA P t with
 | none => rfl
 | some ti =>
  simp only
  cases ti.kind with
  | array m e => simp only; cases tyA P e <;> simp [plus]
  | _ => rfl
end Go.Av
namespace Go.Av
theorem wkI1 (k : IntKind) (x : Int) (tl : Tail) : wkV (.dl 1 (List.map (AV.int k) [x]) .none) (.dl 1 [.int k x] tl) := wkV.tail 1 _ tl
theorem wkI2 (k : IntKind) (x y : Int) (tl : Tail) : wkV (.dl 1 (List.map (AV.int k) [x, y]) .none) (.dl 1 [.int k x, .int k y] tl) := wkV.tail 1 _ tl
theorem wkI3 (k : IntKind) (x y z : Int) (tl : Tail) : wkV (.dl 1 (List.map (AV.int k) [x, y, z]) .none) (.dl 1 [.int k x, .int k y, .int k z] tl) := wkV.tail 1 _ tl
end Go.Av
end

section
set_option linter.unusedSimpArgs false
set_option linter.unusedVariables false
namespace Go.Av
open Go.RowKit
section
variable {P : Program} {B : Nat} {w0 : World} {H : AHeap} {μ : Nat → Nat × Nat} {Z Z' : Nat → Nat → Prop} {w : World} {n : Nat}
/-- A slice over a block of one's own becomes a value, whatever its elements' size. -/
theorem frzG_vr (hR : R B w0 μ Z H w) {id sz : Nat} {es : List AV} {cv : Value} (hid : H[id]? = some (.cells (flat es))) (hs : ∀ e, e ∈ es → e.cells.length = sz) (hv : VR μ Z w H.length (.sl sz id 0 es.length) cv) :
  VR μ (fun c o => Z c o ∨ (c = (μ id).1 ∧ (μ id).2 ≤ o ∧ o < (μ id).2 + (flat es).length)) w H.length (.dl sz es .none) cv := by
 obtain ⟨g1, g2, ccs, e, fr, g3, g4, g5, g6⟩ := hR.obj id _ hid
 have hcell : ∀ j, w.cell? ⟨(μ id).1, j, none⟩ = ccs[j]? := fun j => cell_of_row w _ _ ccs e fr g3
 cases hv with
 | sl _ _ _ _ cap q1 q2 q3 e' N q4 q5 =>
  have hF : ∀ j v, (flat es)[j]? = some v → ∃ u, w.cell? ⟨(μ id).1, (μ id).2 + 0 + j, none⟩ = some u ∧ u.oneCell' = true ∧ VR μ Z w H.length v u := by
   intro j v hj
   obtain ⟨v', p1, p2, p3⟩ := g6 _ _ hj
   exact ⟨v', by rw [hcell, ← p1, Nat.add_zero], p2, p3⟩
  exact VR.dl sz es .none (μ id).1 ((μ id).2 + 0) cap (fun j => (w.cell? ⟨(μ id).1, (μ id).2 + 0 + j, none⟩).getD default) hs q2
   (fun j v hj => by obtain ⟨u, p1, _, _⟩ := hF j v hj; simp only [p1, Option.getD_some])
   (fun j hj => .inr ⟨rfl, by omega, by omega⟩)
   (fun j v hj => by
    obtain ⟨u, p1, _, p3⟩ := hF j v hj
    simp only [p1, Option.getD_some]
    exact p3.mono (Nat.le_refl _) (fun _ _ => rfl) (fun _ _ h => .inl h) (fun _ _ _ => rfl) (fun _ _ => rfl))
   (fun j hj => by
    obtain ⟨u, p1, p2, _⟩ := hF j _ (List.getElem?_eq_getElem hj)
    simp only [p1, Option.getD_some]; exact p2)
   trivial

theorem frzT_vr (hR : R B w0 μ Z H w) {id len : Nat} {cs : List AV} {cv : Value} (hid : H[id]? = some (.cells cs)) (hl : len ≤ cs.length) (h1 : ∀ c, c ∈ cs → c.cells = [c]) (hv : VR μ Z w H.length (.sl 1 id 0 len) cv) :
  VR μ (fun c o => Z c o ∨ (c = (μ id).1 ∧ (μ id).2 ≤ o ∧ o < (μ id).2 + len)) w H.length (.dl 1 (cs.take len) .none) cv := by
 obtain ⟨g1, g2, ccs, e, fr, g3, g4, g5, g6⟩ := hR.obj id _ hid
 have hft : flat (cs.take len) = cs.take len := by
  have : ∀ l : List AV, (∀ c, c ∈ l → c.cells = [c]) → flat l = l := by
   intro l
   induction l with
   | nil => intro _; rfl
   | cons x l ih => intro h; rw [flat_cons, h x (by simp), ih (fun c hc => h c (by simp [hc]))]; rfl
  exact this _ (fun c hc => h1 c (List.mem_of_mem_take hc))
 have hlen : (cs.take len).length = len := by rw [List.length_take]; omega
 have hcell : ∀ j, w.cell? ⟨(μ id).1, j, none⟩ = ccs[j]? := fun j => cell_of_row w _ _ ccs e fr g3
 cases hv with
 | sl _ _ _ _ cap q1 q2 q3 e' N q4 q5 =>
  have hF : ∀ j v, (cs.take len)[j]? = some v → ∃ u, w.cell? ⟨(μ id).1, (μ id).2 + 0 + j, none⟩ = some u ∧ u.oneCell' = true ∧ VR μ Z w H.length v u := by
   intro j v hj
   rw [List.getElem?_take] at hj
   split at hj
   ·obtain ⟨v', p1, p2, p3⟩ := g6 _ _ hj
    exact ⟨v', by rw [hcell, ← p1, Nat.add_zero], p2, p3⟩
   ·cases hj
  have key := VR.dl (μ := μ) (Z := fun c o => Z c o ∨ (c = (μ id).1 ∧ (μ id).2 ≤ o ∧ o < (μ id).2 + len)) (w := w) (n := H.length) 1 (cs.take len) .none (μ id).1 ((μ id).2 + 0) cap
   (fun j => (w.cell? ⟨(μ id).1, (μ id).2 + 0 + j, none⟩).getD default) (fun x hx => by rw [h1 x (List.mem_of_mem_take hx)]; rfl) (by rw [hlen]; exact q2)
   (fun j v hj => by
    rw [hft] at hj
    obtain ⟨u, p1, _, _⟩ := hF j v hj
    simp only [p1, Option.getD_some])
   (fun j hj => by rw [hft, hlen] at hj; exact .inr ⟨rfl, by omega, by omega⟩)
   (fun j v hj => by
    rw [hft] at hj
    obtain ⟨u, p1, _, p3⟩ := hF j v hj
    simp only [p1, Option.getD_some]
    exact p3.mono (Nat.le_refl _) (fun _ _ => rfl) (fun _ _ h => .inl h) (fun _ _ _ => rfl) (fun _ _ => rfl))
   (fun j hj => by
    rw [hft] at hj
    obtain ⟨u, p1, p2, _⟩ := hF j _ (List.getElem?_eq_getElem hj)
    simp only [p1, Option.getD_some]; exact p2)
   trivial
  rw [hlen] at key
  exact key

/-- One place of a value is said otherwise. -/
inductive Rep (x y : AV) : AV → AV → Prop
 | here : Rep x y x y
 | agg {l : List AV} {v v' : AV} (j : Nat) (h : l[j]? = some v) (r : Rep x y v v') : Rep x y (.agg l) (.agg (l.set j v'))
 | tup {l : List AV} {v v' : AV} (j : Nat) (h : l[j]? = some v) (r : Rep x y v v') : Rep x y (.tup l) (.tup (l.set j v'))
theorem Rep.vr {x y : AV} (hz : ∀ c o, Z c o → Z' c o) (hx : ∀ cx, VR μ Z w n x cx → VR μ Z' w n y cx) {v v' : AV} (r : Rep x y v v') : ∀ {cv : Value}, VR μ Z w n v cv → VR μ Z' w n v' cv := by
 have mono : ∀ {u : AV} {cu : Value}, VR μ Z w n u cu → VR μ Z' w n u cu := fun h => h.mono (Nat.le_refl _) (fun _ _ => rfl) hz (fun _ _ _ => rfl) (fun _ _ => rfl)
 induction r with
 | here => exact fun h => hx _ h
 | @agg l v v' j h r ih =>
  intro cv hv
  cases hv with
  | agg _ vs hl f h1 h2 =>
   have hj := (List.getElem?_eq_some_iff.1 h).1
   refine .agg _ vs (by rw [List.length_set]; exact hl) f (fun i u hi => ?_) (fun i u hi => ?_)
   ·by_cases e : j = i
    ·subst e; exact h1 j _ h
    ·rw [List.getElem?_set_ne e] at hi; exact h1 i u hi
   ·by_cases e : j = i
    ·subst e
     rw [List.getElem?_set_self hj] at hi
     cases hi
     exact ih (h2 j _ h)
    ·rw [List.getElem?_set_ne e] at hi; exact mono (h2 i u hi)
 | @tup l v v' j h r ih =>
  intro cv hv
  cases hv with
  | tup _ vs hl f h1 h2 =>
   have hj := (List.getElem?_eq_some_iff.1 h).1
   refine .tup _ vs (by rw [List.length_set]; exact hl) f (fun i u hi => ?_) (fun i u hi => ?_)
   ·by_cases e : j = i
    ·subst e; exact h1 j _ h
    ·rw [List.getElem?_set_ne e] at hi; exact h1 i u hi
   ·by_cases e : j = i
    ·subst e
     rw [List.getElem?_set_self hj] at hi
     cases hi
     exact ih (h2 j _ h)
    ·rw [List.getElem?_set_ne e] at hi; exact mono (h2 i u hi)

/-- What a function comes to, where lists of its own become values. -/
inductive RetF (K : AV → AHeap → Prop) : AV → AHeap → Prop
 | ret {v : AV} {H : AHeap} (h : RetK K v H) : RetF K v H
 | frz {v v' : AV} {H : AHeap} {sz id : Nat} {es : List AV} (hr : Rep (.sl sz id 0 es.length) (.dl sz es .none) v v') (hid : H[id]? = some (.cells (flat es))) (hs : ∀ e, e ∈ es → e.cells.length = sz) (h : RetF K v' (H.set id .dead)) : RetF K v H
 | frzT {v v' : AV} {H : AHeap} {id len : Nat} {cs : List AV} (hr : Rep (.sl 1 id 0 len) (.dl 1 (cs.take len) .none) v v') (hid : H[id]? = some (.cells cs)) (hl : len ≤ cs.length) (h1 : ∀ c, c ∈ cs → c.cells = [c]) (h : RetF K v' (H.set id .dead)) : RetF K v H
 | nil {v v' : AV} {H : AHeap} {sz s : Nat} (hr : Rep (.dl s [] .full) (.dl sz [] .none) v v') (h : RetF K v' H) : RetF K v H
theorem ACall.retF {f : FuncId} {args : List AV} {K : AV → AHeap → Prop} (h : ACall P B w0 f args H (RetF K)) : ACall P B w0 f args H K :=
 ⟨h.1, fun μ Z w cargs h1 h2 => (h.2 μ Z w cargs h1 h2).mono (by
  rintro e w' ⟨v, cv, μ', Z', H', q1, q2, q3, q4, q5⟩
  have key : ∀ {v : AV} {H2 : AHeap}, RetF K v H2 → ∀ {Z2 : Nat → Nat → Prop}, R B w0 μ' Z2 H2 w' → VR μ' Z2 w' H2.length v cv → Ev μ Z H w μ' Z2 H2 w' →
    ∃ v cv' μ' Z' H', e = .returned cv' ∧ R B w0 μ' Z' H' w' ∧ VR μ' Z' w' H'.length v cv' ∧ Ev μ Z H w μ' Z' H' w' ∧ K v H' := by
   intro v H2 hk
   induction hk with
   | @ret v H2 h =>
    intro Z2 p1 p2 p3
    obtain ⟨v', H3, k1, k2, k3⟩ := h
    obtain ⟨r1, r2⟩ := p1.wkH k2
    exact ⟨v', cv, μ', Z2, H3, q1, r1, by rw [k2.1]; exact p2.weakR k1, p3.trans r2, k3⟩
   | @frz v v' H2 sz id es hr hid hs h ih =>
    intro Z2 p1 p2 p3
    have hZ : ∀ cx, VR μ' Z2 w' H2.length (.sl sz id 0 es.length) cx → VR μ' (fun c o => Z2 c o ∨ (c = (μ' id).1 ∧ (μ' id).2 ≤ o ∧ o < (μ' id).2 + (flat es).length)) w' H2.length (.dl sz es .none) cx := by
     intro cx hx
     exact frzG_vr p1 hid hs hx
    obtain ⟨r1, r2⟩ := p1.freeze hid (fun c o => Z2 c o ∨ (c = (μ' id).1 ∧ (μ' id).2 ≤ o ∧ o < (μ' id).2 + (flat es).length)) (fun _ _ h => .inl h) (fun c o h => h.imp (fun h => h) (·.1))
    exact ih r1 (by rw [List.length_set]; exact hr.vr (fun _ _ h => .inl h) hZ p2) (p3.trans r2)
   | @frzT v v' H2 id len cs hr hid hl h1 h ih =>
    intro Z2 p1 p2 p3
    obtain ⟨r1, r2⟩ := p1.freeze hid (fun c o => Z2 c o ∨ (c = (μ' id).1 ∧ (μ' id).2 ≤ o ∧ o < (μ' id).2 + len)) (fun _ _ h => .inl h) (fun c o h => h.imp (fun h => h) (·.1))
    exact ih r1 (by rw [List.length_set]; exact hr.vr (fun _ _ h => .inl h) (fun cx hx => frzT_vr p1 hid hl h1 hx) p2) (p3.trans r2)
   | @nil v v' H2 sz s hr h ih =>
    intro Z2 p1 p2 p3
    exact ih p1 (hr.vr (fun _ _ h => h) (fun cx hx => hx.weak (wkV.nil sz s .full)) p2) p3
  exact key q5 q2 q3 q4)⟩
end
end Go.Av
namespace Go.Av
open Go.RowKit
theorem flat_map_nil {α : Type} {enc : α → AV} {sz : Nat} (hc : SzC sz enc) (h0 : 0 < sz) {l : List α} (h : flat (List.map enc l) = []) : l = [] := by
 have := hc.flat l
 rw [h, List.length_nil] at this
 rcases Nat.mul_eq_zero.1 this.symm with h | h
 ·exact List.length_eq_zero_iff.1 h
 ·omega
theorem flat_map_len {α : Type} {enc : α → AV} {sz len : Nat} (hc : SzC sz enc) (h0 : 0 < sz) {l : List α} (h : (flat (List.map enc l)).length = len * sz) : len = l.length := by
 rw [hc.flat] at h
 exact (Nat.eq_of_mul_eq_mul_right h0 h).symm
section
variable {P : Program} {B : Nat} {w0 : World} {H : AHeap} {K : AV → AHeap → Prop} {L L' : List Item} {t t2 : TypeId} {sz n : Nat} {y v v' v0 : AV} {α : Type} {enc : α → AV} {l ys : List α}
theorem RetF.own (hc : SzC sz enc) (h0 : 0 < sz) (hN : Need0 (.own sz v0 (flat (List.map enc l)) :: L') L) (hr : Rep v0 (.dl sz (List.map enc l) .none) v v') (hS : Hv H L) (h : ∀ H', Hv H' L' → RetF K v' H') : RetF K v H := by
 have hs := hS.need0 hN
 rcases hs.each _ (List.mem_cons_self ..) with ⟨s, rfl, hcs⟩ | ⟨id, len, rfl, hl, hid⟩
 ·have := flat_map_nil hc h0 hcs
  subst this
  exact RetF.nil hr (h H hs.drop)
 ·obtain rfl := flat_map_len hc h0 hl
  refine RetF.frz (es := List.map enc l) (by rwa [List.length_map]) hid (fun e he => by obtain ⟨x, _, rfl⟩ := List.mem_map.1 he; exact hc x) (h _ ?_)
  exact (hs.set (y := .tl .full) rfl .dead (.inl rfl) (fun j h => by cases h)).drop
theorem RetF.own1 (hc : OneC enc) (hN : Need0 (.own 1 v0 (List.map enc l) :: L') L) (hr : Rep v0 (.dl 1 (List.map enc l) .none) v v') (hS : Hv H L) (h : ∀ H', Hv H' L' → RetF K v' H') : RetF K v H :=
 RetF.own hc.toSz (by decide) (by rw [flat_one enc hc]; exact hN) hr hS h
theorem Wk.setL : ∀ {a : List AV} {t : Nat} {u v : AV}, a[t]? = some u → wkV v u → Wk (a.set t v) a
 | [], _, _, _, h, _ => by simp at h
 | _ :: _, 0, _, _, h, k => by simp at h; subst h; exact ⟨k, Wk.refl _⟩
 | _ :: _, _ + 1, _, _, h, k => ⟨wkV.refl _, Wk.setL (by simpa using h) k⟩
/-- an own list that a variable holds is frozen ahead of a piece of code -/
theorem AWP.frzT {rd : Option Nat} {c : Code} {Q : Exit → List AV → AHeap → Prop} {a : List AV} (t : Nat) (hc : SzC sz enc) (h0 : 0 < sz) (ht : a[t]? = some v0) (hN : Need0 (.own sz v0 (flat (List.map enc l)) :: L') L) (hS : Hv H L) (h : ∀ H', Hv H' L' → AWP P B w0 rd c Q (a.set t (.dl sz (List.map enc l) .none)) H') : AWP P B w0 rd c Q a H := by
 have hs := hS.need0 hN
 rcases hs.each _ (List.mem_cons_self ..) with ⟨s, rfl, hcs⟩ | ⟨id, len, rfl, hl, hid⟩
 ·have := flat_map_nil hc h0 hcs
  subst this
  exact (h H hs.drop).weak (Wk.setL ht (wkV.nil sz s .full))
 ·obtain rfl := flat_map_len hc h0 hl
  have hs' : ∀ e, e ∈ List.map enc l → e.cells.length = sz := fun e he => by obtain ⟨x, _, rfl⟩ := List.mem_map.1 he; exact hc x
  have hd : Hv (H.set id .dead) L' := (hs.set (y := .tl .full) rfl .dead (.inl rfl) (fun j h => by cases h)).drop
  refine AWP.freeze (elems := List.map enc l) ht hid hs' (by simp) ?_ (h _ hd)
  rw [List.drop_zero, List.take_of_length_le (by rw [hl]; exact Nat.le_refl _)]
/-- append to a list of its own, whatever is appended -/
theorem appO_ownH (hc : SzC sz enc) (hT : AppTy P t sz n) (hy : AppSrcH P H t2 sz y (List.map enc ys)) (hN : Need0 (.own sz v (flat (List.map enc l)) :: L') L) (hS : Hv H L) (hlen : l.length + ys.length ≤ n)
  (hK : ∀ (v' : AV) (H' : AHeap), Hv H' (.own sz v' (flat (List.map enc (l ++ ys))) :: L') → K v' H') : AppE P t t2 v y H K := by
 have hs := hS.need0 hN
 by_cases hys : ys = []
 ·subst hys
  rcases hs.each _ (List.mem_cons_self ..) with ⟨s, rfl, hcs⟩ | ⟨id, len, rfl, hl, hid⟩
  ·obtain ⟨ti, e, te, z, h1, h2, h3, h4, h5, h6, rfl, h9, h10⟩ := hT
   obtain ⟨y', hw, h7⟩ := hy
   obtain rfl := flat_map_nil hc h6 hcs
   refine ⟨y', hw, .inl ⟨ti, e, te, z, [], s, [], .full, h1, h2, h3, h4, h5, h6, h7, rfl, .inr ⟨rfl, rfl⟩, fun _ => ?_, fun h => absurd rfl h⟩⟩
   exact hK _ _ (hs.drop.free (.inl ⟨_, rfl, rfl⟩) rfl)
  ·obtain ⟨ti, e, te, z, h1, h2, h3, h4, h5, h6, rfl, h9, h10⟩ := hT
   obtain ⟨y', hw, h7⟩ := hy
   obtain rfl := flat_map_len hc h6 hl
   have hb := Nat.le_trans (Nat.mul_le_mul_right te.bytes hlen) h9
   refine ⟨y', hw, .inr (.inr (.inr ⟨ti, e, te, z, [], id, l.length, _, h1, h2, h3, h4, h5, h6, h7, rfl, hid, hl, by simpa using hb, by have := Nat.le_trans (Nat.le_mul_of_pos_right (l.length + 0) h10) hb; simp at this ⊢; omega, hK _ _ ?_⟩))⟩
   have h1 : Hv (H.set id .dead) (.tl .full :: L') := hs.set rfl _ (.inl rfl) (fun j h => by cases h)
   have h2 := h1.drop.push (.cells (flat (List.map enc l) ++ flat [])) (x := .own te.size (.sl te.size (H.set id AObj.dead).length 0 (l.length + 0)) (flat (List.map enc (l ++ [])))) (.inr ⟨_, _, rfl, by simpa using hl, by rw [get_new]; simp [flat]⟩) (fun i h => by cases h; rfl)
   simpa using h2
 ·refine app_ownH hT hy .here hs ?_ (fun h => hys (List.map_eq_nil_iff.1 h)) ?_ (by rw [hc.flat, List.length_map])
  ·rw [hc.flat, List.length_map, ← Nat.add_mul]; exact Nat.mul_le_mul_right _ hlen
  ·intro v' H' h
   rw [← flat_append, map_app] at h
   exact hK v' H' h
theorem appO_own (hc : SzC sz enc) (hT : AppTy P t sz n) (hy : AppSrc P t2 sz y (List.map enc ys)) (hN : Need0 (.own sz v (flat (List.map enc l)) :: L') L) (hS : Hv H L) (hlen : l.length + ys.length ≤ n)
  (hK : ∀ (v' : AV) (H' : AHeap), Hv H' (.own sz v' (flat (List.map enc (l ++ ys))) :: L') → K v' H') : AppE P t t2 v y H K := appO_ownH hc hT hy.h hN hS hlen hK
theorem appO_own1 (hc : OneC enc) (hT : AppTy P t 1 n) (hy : AppSrc P t2 1 y (List.map enc ys)) (hN : Need0 (.own 1 v (List.map enc l) :: L') L) (hS : Hv H L) (hlen : l.length + ys.length ≤ n)
  (hK : ∀ (v' : AV) (H' : AHeap), Hv H' (.own 1 v' (List.map enc (l ++ ys)) :: L') → K v' H') : AppE P t t2 v y H K :=
 appO_own hc.toSz hT hy (by rw [flat_one enc hc]; exact hN) hS hlen (fun v' H' h => hK v' H' (by rwa [flat_one enc hc] at h))
theorem appO_nilH (hc : SzC sz enc) (hT : AppTy P t sz n) (hy : AppSrcH P H t2 sz y (List.map enc ys)) {s : Nat} (hS : Hv H L) (hlen : ys.length ≤ n)
  (hK : ∀ (v' : AV) (H' : AHeap), Hv H' (.own sz v' (flat (List.map enc ys)) :: L) → K v' H') : AppE P t t2 (.dl s [] .full) y H K :=
 appO_ownH (l := []) hc hT hy (.own0 .done) hS (by simpa using hlen) (fun v' H' h => hK v' H' (by simpa using h))
theorem appO_nilH1 (hc : OneC enc) (hT : AppTy P t 1 n) (hy : AppSrcH P H t2 1 y (List.map enc ys)) {s : Nat} (hS : Hv H L) (hlen : ys.length ≤ n)
  (hK : ∀ (v' : AV) (H' : AHeap), Hv H' (.own 1 v' (List.map enc ys) :: L) → K v' H') : AppE P t t2 (.dl s [] .full) y H K :=
 appO_nilH hc.toSz hT hy hS hlen (fun v' H' h => hK v' H' (by rwa [flat_one enc hc] at h))
/-- what a part of a list of its own may be appended as -/
def ViewOf (P : Program) (H : AHeap) (sz : Nat) (u : AV) (ys : List AV) : Prop := ∀ (t2 : TypeId) (ti2 : TyA) (e2 : TypeId), tyA P t2 = some ti2 → ti2.kind = .slice e2 → AppSrcH P H t2 sz u ys
theorem ViewOf.src {ys : List AV} {u : AV} {t2 e2 : TypeId} {ti2 : TyA} (h : ViewOf P H sz u ys) (h1 : tyA P t2 = some ti2) (h2 : ti2.kind = .slice e2) : AppSrcH P H t2 sz u ys := h t2 ti2 e2 h1 h2
theorem flatE_drop (hc : SzC sz enc) : ∀ (l : List α) (a : Nat), List.drop (a * sz) (flat (List.map enc l)) = flat (List.map enc (List.drop a l))
 | l, 0 => by simp
 | [], a + 1 => by simp [flat]
 | x :: l, a + 1 => by
  rw [List.map_cons, flat_cons, List.drop_succ_cons, ← flatE_drop hc l a, Nat.succ_mul, Nat.add_comm, ← List.drop_drop]
  congr 1
  rw [← hc x, List.drop_left]
theorem flatE_take (hc : SzC sz enc) : ∀ (l : List α) (a : Nat), List.take (a * sz) (flat (List.map enc l)) = flat (List.map enc (List.take a l))
 | l, 0 => by simp [flat]
 | [], a + 1 => by simp [flat]
 | x :: l, a + 1 => by
  rw [List.map_cons, flat_cons, List.take_succ_cons, List.map_cons, flat_cons, ← flatE_take hc l a, Nat.succ_mul, Nat.add_comm]
  have h : (enc x).cells.length = sz := hc x
  rw [← h, List.take_length_add_append]
/-- a part of a list of its own -/
theorem slice_own {e : TypeId} {ti te : TyA} {lo hi : Option AV} {a b : Nat} (ht : tyA P t = some ti) (hk : ti.kind = .slice e) (he : tyA P e = some te) (hsz : te.size = sz) (hc : SzC sz enc) (h0 : 0 < sz) (hp : Pull L (.own sz v (flat (List.map enc l))) L') (hS : Hv H L)
  (hl : bnd 0 lo = some a) (hh : bnd l.length hi = some b) (hab : a ≤ b ∧ b ≤ l.length) (h : ∀ u, ViewOf P H sz u (List.map enc (List.drop a (List.take b l))) → K u H) : someK (sliceA P t v lo hi none) K H := by
 rcases (hS.pull hp).each _ (List.mem_cons_self ..) with ⟨s, rfl, hcs⟩ | ⟨id, len, rfl, hl2, hid⟩
 ·have := flat_map_nil hc h0 hcs
  subst this
  simp only [List.length_nil] at hh hab
  obtain ⟨hab1, hab2⟩ := hab
  obtain rfl : b = 0 := by omega
  obtain rfl : a = 0 := by omega
  refine ⟨_, by simp [sliceA, ht, hk, he, hl, hh]; rfl, h _ ?_⟩
  intro t2 ti2 e2 h1 h2
  exact ⟨_, wkD.refl _, .inl (by simp [srcA, h1, h2])⟩
 ·obtain rfl := flat_map_len hc h0 hl2
  refine ⟨if a = b ∧ a ≠ 0 then .dl sz [] .none else .sl sz id (a * sz) (b - a), by simp only [sliceA, ht, hk, he, hl, hh, hab, hsz, true_and, and_self, Option.isNone_none, if_true, Nat.zero_add]; split <;> rfl, ?_⟩
  have hlt : (List.drop a (List.take b l)).length = b - a := by simp; omega
  by_cases hz : a = b ∧ a ≠ 0
  ·rw [if_pos hz]
   refine h _ ?_
   intro t2 ti2 e2 h1 h2
   have : List.drop a (List.take b l) = [] := List.eq_nil_of_length_eq_zero (by omega)
   rw [this]
   exact ⟨_, wkD.refl _, .inl (by simp [srcA, h1, h2])⟩
  ·rw [if_neg hz]
   refine h _ ?_
   intro t2 ti2 e2 h1 h2
   refine ⟨_, wkD.refl _, .inr ⟨ti2, e2, id, a * sz, _, h1, h2, by rw [List.length_map, hlt], hid, ?_, ?_, ?_⟩⟩
   ·rw [List.length_map, hlt, hc.flat, ← Nat.add_mul]
    exact Nat.mul_le_mul_right _ (by omega)
   ·intro x hx
    obtain ⟨y, _, rfl⟩ := List.mem_map.1 hx
    exact hc y
   ·rw [List.length_map, hlt, flatE_drop hc, flatE_take hc, List.take_drop, Nat.add_sub_cancel' hab.1]
theorem own_view (hc : SzC sz enc) (h0 : 0 < sz) (hp : Pull L (.own sz v (flat (List.map enc l))) L') (hS : Hv H L) : ViewOf P H sz v (List.map enc l) := by
 intro t2 ti2 e2 h1 h2
 rcases (hS.pull hp).each _ (List.mem_cons_self ..) with ⟨s, rfl, hcs⟩ | ⟨id, len, rfl, hl2, hid⟩
 ·have := flat_map_nil hc h0 hcs
  subst this
  exact ⟨_, wkD.refl _, .inl (by simp [srcA, h1, h2])⟩
 ·obtain rfl := flat_map_len hc h0 hl2
  refine ⟨_, wkD.refl _, .inr ⟨ti2, e2, id, 0, _, h1, h2, by rw [List.length_map], hid, ?_, ?_, ?_⟩⟩
  ·rw [List.length_map, hl2]; omega
  ·intro x hx
   obtain ⟨y, _, rfl⟩ := List.mem_map.1 hx
   exact hc y
  ·rw [List.length_map, ← hl2, List.drop_zero, List.take_length]
theorem own_view1 (hc : OneC enc) (hp : Pull L (.own 1 v (List.map enc l)) L') (hS : Hv H L) : ViewOf P H 1 v (List.map enc l) :=
 own_view hc.toSz (by decide) (by rw [flat_one enc hc]; exact hp) hS
/-! a list of its own whose block has a name: its value stays told by v -/
theorem ownF {id len : Nat} (hv : v = .sl sz id 0 len) : (AV.cells v = [v]) ∧ (isUndef v = false) ∧ (AV.one v = true) := by subst hv; exact ⟨rfl, rfl, rfl⟩
theorem Hv.reown {id len : Nat} {cs : List AV} (hv : v = .sl sz id 0 len) (hp : Pull L (.obj id (.cells cs)) L') (hl : cs.length = len * sz) (hS : Hv H L) : Hv H (.own sz v cs :: L') := by
 have h := hS.pull hp
 subst hv
 exact h.as (y := .own sz (.sl sz id 0 len) cs) (.inr ⟨_, _, rfl, hl, h.each (.obj _ _) (List.mem_cons_self ..)⟩) (fun i hi => hi)
theorem idx_v {e : TypeId} {ti te : TyA} {id len : Nat} {k : IntKind} {i : Int} (ht : tyA P t = some ti) (hk : ti.kind = .slice e) (he : tyA P e = some te) (hsz : te.size = sz) (hv : v = .sl sz id 0 len) (hi : 0 ≤ i ∧ i < (len : Int)) (h : K (.ptr id (i.toNat * sz)) H) : someK (indexAddrA P t v (.int k i)) K H := by
 subst hv
 exact ⟨_, by simp [indexAddrA, ht, hk, he, hsz, hi.1, hi.2], h⟩
theorem idx_v1 {e : TypeId} {ti te : TyA} {id len : Nat} {k : IntKind} {i : Int} (ht : tyA P t = some ti) (hk : ti.kind = .slice e) (he : tyA P e = some te) (hsz : te.size = 1) (hv : v = .sl 1 id 0 len) (hi : 0 ≤ i ∧ i < (len : Int)) (h : K (.ptr id i.toNat) H) : someK (indexAddrA P t v (.int k i)) K H :=
 idx_v ht hk he hsz hv hi (by rw [Nat.mul_one]; exact h)
theorem len_v {ti : TyA} {e : TypeId} {id len : Nat} (ht : tyA P t = some ti) (hk : ti.kind = .slice e) (hv : v = .sl sz id 0 len) (h : K (.int .i64 (len : Int)) H) : someK (lenA P H t v) K H := by
 subst hv
 exact ⟨_, by simp [lenA, ht, hk], h⟩
theorem atSlice {lo hi mx : Option AV} {x : AV} (h : someK (sliceA P t x lo hi mx) K H) : someK (sliceA P t x lo hi mx) K H := h
/-- the length of a list of its own -/
theorem len_own {ti : TyA} {e : TypeId} (ht : tyA P t = some ti) (hk : ti.kind = .slice e) (hc : SzC sz enc) (h0 : 0 < sz) (hp : Pull L (.own sz v (flat (List.map enc l))) L') (hS : Hv H L) (h : K (.int .i64 (l.length : Int)) H) : someK (lenA P H t v) K H := by
 rcases (hS.pull hp).each _ (List.mem_cons_self ..) with ⟨s, rfl, hcs⟩ | ⟨id, len, rfl, hl, hid⟩
 ·have := flat_map_nil hc h0 hcs
  subst this
  exact ⟨_, by simp [lenA, ht, hk], h⟩
 ·obtain rfl := flat_map_len hc h0 hl
  exact ⟨_, by simp [lenA, ht, hk], h⟩
theorem len_own1 {ti : TyA} {e : TypeId} (ht : tyA P t = some ti) (hk : ti.kind = .slice e) (hc : OneC enc) (hp : Pull L (.own 1 v (List.map enc l)) L') (hS : Hv H L) (h : K (.int .i64 (l.length : Int)) H) : someK (lenA P H t v) K H :=
 len_own ht hk hc.toSz (by decide) (by rw [flat_one enc hc]; exact hp) hS h
/-- a list of its own is nothing or a block -/
theorem split_own {G : AV → Prop} (hc : SzC sz enc) (h0 : 0 < sz) (hp : Pull L (.own sz v (flat (List.map enc l))) L') (hS : Hv H L) (hn : l = [] → ∀ s, G (.dl s [] .full)) (hb : ∀ id, Hv H (.obj id (.cells (flat (List.map enc l))) :: L') → G (.sl sz id 0 l.length)) : G v := by
 have hs := hS.pull hp
 rcases hs.each _ (List.mem_cons_self ..) with ⟨s, rfl, hcs⟩ | ⟨id, len, rfl, hl, hid⟩
 ·exact hn (flat_map_nil hc h0 hcs) s
 ·obtain rfl := flat_map_len hc h0 hl
  exact hb id (hs.as hid (fun i hi => hi))
theorem split_own1 {G : AV → Prop} (hc : OneC enc) (hp : Pull L (.own 1 v (List.map enc l)) L') (hS : Hv H L) (hn : l = [] → ∀ s, G (.dl s [] .full)) (hb : ∀ id, Hv H (.obj id (.cells (List.map enc l)) :: L') → G (.sl 1 id 0 l.length)) : G v :=
 split_own (G := G) hc.toSz (by decide) (by rw [flat_one enc hc]; exact hp) hS hn (fun id h => hb id (by rwa [flat_one enc hc] at h))
theorem atLen {x : AV} (h : someK (lenA P H t x) K H) : someK (lenA P H t x) K H := h
theorem atIdx {x i : AV} (h : someK (indexAddrA P t x i) K H) : someK (indexAddrA P t x i) K H := h
end
end Go.Av
namespace Go.Av
open Go.RowKit
section
variable {P : Program} {B : Nat} {w0 : World} {H : AHeap} {K : AV → AHeap → Prop} {L L' L2 : List Item} {t : TypeId} {v x : AV}
theorem sto_own {te : TyA} {id off sz : Nat} {cs ocs : List AV} (ht : tyA P t = some te) (hp : Pull L (.own sz v ocs) L2) (hq : Pull L (.obj id (.cells cs)) L') (hS : Hv H L) (h4 : te.size = 1) (h5 : off + 1 ≤ cs.length)
  (hK : ∀ H', Hv H' (.obj id (.cells (putA cs off [v])) :: L') → K .undef H') : StoE P t (.ptr id off) v H K := by
 have hv : v.cells = [v] ∧ okCells v = true := by
  rcases (hS.pull hp).each _ (List.mem_cons_self ..) with ⟨s, rfl, _⟩ | ⟨i, len, rfl, _⟩ <;> exact ⟨rfl, rfl⟩
 refine sto_go ht hq hS hv.2 (by rw [hv.1, h4]; rfl) (by rw [h4]; exact h5) ?_
 rw [hv.1]; exact hK
theorem atRetF (h : RetF K x H) : RetF K x H := h
end
end Go.Av
namespace Go.Av
end Go.Av
namespace Go.Av
open Go.RowKit
theorem split9 {H : AHeap} {L L' : List Item} {sz : Nat} {v : AV} {α : Type} {enc : α → AV} {l : List α} (hc : SzC sz enc) (h0 : 0 < sz) (hp : Pull L (.own sz v (flat (List.map enc l))) L') (hS : Hv H L) : (l = [] ∧ ∃ s, v = .dl s [] .full) ∨ ∃ id, v = .sl sz id 0 l.length ∧ Hv H (.obj id (.cells (flat (List.map enc l))) :: L') :=
 split_own (G := fun v => (l = [] ∧ ∃ s, v = .dl s [] .full) ∨ ∃ id, v = .sl sz id 0 l.length ∧ Hv H (.obj id (.cells (flat (List.map enc l))) :: L')) hc h0 hp hS (fun hl s => .inl ⟨hl, s, rfl⟩) (fun id h => .inr ⟨id, rfl, h⟩)
theorem split91 {H : AHeap} {L L' : List Item} {v : AV} {α : Type} {enc : α → AV} {l : List α} (hc : OneC enc) (hp : Pull L (.own 1 v (List.map enc l)) L') (hS : Hv H L) : (l = [] ∧ ∃ s, v = .dl s [] .full) ∨ ∃ id, v = .sl 1 id 0 l.length ∧ Hv H (.obj id (.cells (List.map enc l)) :: L') :=
 split_own1 (G := fun v => (l = [] ∧ ∃ s, v = .dl s [] .full) ∨ ∃ id, v = .sl 1 id 0 l.length ∧ Hv H (.obj id (.cells (List.map enc l)) :: L')) hc hp hS (fun hl s => .inl ⟨hl, s, rfl⟩) (fun id h => .inr ⟨id, rfl, h⟩)
end Go.Av
namespace Go.Av
/-! short names -/
theorem pH {x : Item} {l : List Item} : Pull (x :: l) x l := .here
theorem pT {l l' : List Item} {x z : Item} (h : Pull l x l') : Pull (z :: l) x (z :: l') := .there h
section
variable {l l' : List AV} {x y : AV}
theorem kZ : Wk [] [] := Wk.nil
theorem kR (k : Wk l l') : Wk (x :: l) (x :: l') := Wk.r k
theorem kF {s s' : Nat} (k : Wk l l') : Wk (.dl s [] .full :: l) (.dl s' [] .full :: l') := Wk.cons (wkV.nilf _ _) k
theorem kN {s s' : Nat} {tl : Tail} (k : Wk l l') : Wk (.dl s [] .none :: l) (.dl s' [] tl :: l') := Wk.cons (wkV.nil _ _ _) k
theorem kE {α : Type} {enc : α → AV} {s s' : Nat} {tl : Tail} (k : Wk l l') : Wk (.dl s (List.map enc ([] : List α)) .none :: l) (.dl s' [] tl :: l') := Wk.cons (wkN0 enc _ _ _) k
theorem kI {c : IntKind} {a : Int} {tl : Tail} (k : Wk l l') : Wk (.dl 1 (List.map (AV.int c) [a]) .none :: l) (.dl 1 [.int c a] tl :: l') := Wk.cons (wkI1 _ _ _) k
theorem kT {s : Nat} {es : List AV} {tl : Tail} (k : Wk l l') : Wk (.dl s es .none :: l) (.dl s es tl :: l') := Wk.cons (wkV.tail _ _ _) k
theorem kU (k : Wk l l') : Wk (.undef :: l) (y :: l') := Wk.u k
theorem aZ : WkA [] [] := WkA.nil
theorem aR (k : WkA l l') : WkA (x :: l) (x :: l') := WkA.r k
theorem aF {s s' : Nat} (k : WkA l l') : WkA (.dl s [] .full :: l) (.dl s' [] .full :: l') := WkA.cons (wkA.v (wkV.nilf _ _)) k
theorem aN {s s' : Nat} {tl : Tail} (k : WkA l l') : WkA (.dl s [] .none :: l) (.dl s' [] tl :: l') := WkA.cons (wkA.v (wkV.nil _ _ _)) k
theorem aT {s : Nat} {es : List AV} {tl : Tail} (k : WkA l l') : WkA (.dl s es .none :: l) (.dl s es tl :: l') := WkA.cons (wkA.v (wkV.tail _ _ _)) k
theorem aG {cs cs' : List AV} (h : Wk cs cs') (k : WkA l l') : WkA (.agg cs :: l) (.agg cs' :: l') := WkA.cons (wkA.agg h) k
end
section
variable {h h' n : List Item} {x : Item}
theorem nD : Need h h := .done
theorem nT (p : Pull h x h') (k : Need n h') : Need (x :: n) h := .take p k
theorem nW {id : Nat} {cs cs0 : List AV} (p : Pull h (.obj id (.cells cs)) h') (hw : Wk cs0 cs) (k : Need n h') : Need (.obj id (.cells cs0) :: n) h := .takew p hw k
theorem nX (k : Need n h) : Need n (x :: h) := .drop k
theorem nF (k : Need n h) : Need (.tl .full :: n) h := .full k
theorem nO {sz id len : Nat} {cs : List AV} (p : Pull h (.obj id (.cells cs)) h') (hl : cs.length = len * sz) (k : Need n h') : Need (.own sz (.sl sz id 0 len) cs :: n) h := .own p hl k
theorem nE {sz s : Nat} (k : Need n h) : Need (.own sz (.dl s [] .full) [] :: n) h := .own0 k
theorem nV {sz id len : Nat} {v : AV} {cs : List AV} (hv : v = .sl sz id 0 len) (p : Pull h (.obj id (.cells cs)) h') (hl : cs.length = len * sz) (k : Need n h') : Need (.own sz v cs :: n) h := by subst hv; exact .own p hl k
theorem mV {sz id len : Nat} {v : AV} {cs : List AV} (hv : v = .sl sz id 0 len) (p : Pull h (.obj id (.cells cs)) h') (hl : cs.length = len * sz) (k : Need0 n h') : Need0 (.own sz v cs :: n) h := by subst hv; exact .own p hl k
theorem mD : Need0 h h := .done
theorem mT (p : Pull h x h') (k : Need0 n h') : Need0 (x :: n) h := .take p k
theorem mX (k : Need0 n h) : Need0 n (x :: h) := .drop k
theorem mF (k : Need0 n h) : Need0 (.tl .full :: n) h := .full k
theorem mO {sz id len : Nat} {cs : List AV} (p : Pull h (.obj id (.cells cs)) h') (hl : cs.length = len * sz) (k : Need0 n h') : Need0 (.own sz (.sl sz id 0 len) cs :: n) h := .own p hl k
theorem mE {sz s : Nat} (k : Need0 n h) : Need0 (.own sz (.dl s [] .full) [] :: n) h := .own0 k
end
section
variable {s : List Slot} {a a' : List AV} {v x y : AV}
theorem sZ : W2 [] [] [] := W2.nil
theorem sD (h : W2 s a a') : W2 (.d :: s) (x :: a) (y :: a') := W2.d h
theorem sK (h : W2 s a a') : W2 (.k :: s) (x :: a) (x :: a') := W2.k h
theorem sP (h : W2 s a a') : W2 (.p v :: s) (x :: a) (v :: a') := W2.p h
theorem sF {t t' : Nat} (h : W2 s a a') : W2 (.p (.dl t [] .full) :: s) (x :: a) (.dl t' [] .full :: a') := W2.pw (wkV.nilf _ _) h
theorem sN {t t' : Nat} {tl : Tail} (h : W2 s a a') : W2 (.p (.dl t [] .none) :: s) (x :: a) (.dl t' [] tl :: a') := W2.pw (wkV.nil _ _ _) h
theorem sT {t : Nat} {es : List AV} {tl : Tail} (h : W2 s a a') : W2 (.p (.dl t es .none) :: s) (x :: a) (.dl t es tl :: a') := W2.pw (wkV.tail _ _ _) h
end
end Go.Av
namespace Go.Av
section
variable {x y : AV} {s s' : Nat} {es : List AV} {tl : Tail} {cs cs' : List AV}
theorem rR : wkR x x := wkR.a (wkA.refl _)
theorem rT : wkR (.dl s es .none) (.dl s es tl) := wkR.a (wkA.v (wkV.tail _ _ _))
theorem rF : wkR (.dl s [] .full) (.dl s' [] .full) := wkR.a (wkA.v (wkV.nilf _ _))
theorem rN : wkR (.dl s [] .none) (.dl s' [] tl) := wkR.a (wkA.v (wkV.nil _ _ _))
theorem rG (h : Wk cs cs') : wkR (.agg cs) (.agg cs') := wkR.a (wkA.agg h)
theorem rU (h : WkA cs cs') : wkR (.tup cs) (.tup cs') := wkR.tup h
end
section
variable {α : Type} {x : Option α} {r : α}
end
theorem oneSl (a b c d : Nat) : AV.one (.sl a b c d) = true := rfl
theorem oneInt (k : IntKind) (i : Int) : AV.one (.int k i) = true := rfl
theorem oneDl (n : Nat) (l : List AV) (t : Tail) : AV.one (.dl n l t) = true := rfl
theorem oneStr (l : List UInt8) : AV.one (.str l) = true := rfl
theorem oneBool (b : Bool) : AV.one (.bool b) = true := rfl

end Go.Av
end

section
namespace Go.Av
section
variable {α : Type} {enc : α → AV} {sz : Nat}
theorem flat_at [Inhabited α] (hc : SzC sz enc) : ∀ (l : List α) (i : Nat), i < l.length → (flat (List.map enc l)).drop (i * sz) = (enc (rdn l i)).cells ++ flat (List.map enc (l.drop (i + 1)))
 | [], _, h => by simp at h
 | x :: l, 0, _ => by simp [flat, rdn]
 | x :: l, i + 1, h => by
  have := flat_at hc l i (by simpa using h)
  have e : (i + 1) * sz = sz + i * sz := by rw [Nat.succ_mul, Nat.add_comm]
  rw [List.map_cons, show flat (enc x :: List.map enc l) = (enc x).cells ++ flat (List.map enc l) from rfl, e, ← List.drop_drop, List.drop_left' (hc x), this]
  rfl
theorem flat_tk (hc : SzC sz enc) : ∀ (l : List α) (i : Nat), (flat (List.map enc l)).take (i * sz) = flat (List.map enc (l.take i))
 | [], i => by simp [flat]
 | x :: l, 0 => by simp [flat]
 | x :: l, i + 1 => by
  have := flat_tk hc l i
  have e : (i + 1) * sz = sz + i * sz := by rw [Nat.succ_mul, Nat.add_comm]
  rw [List.map_cons, show flat (enc x :: List.map enc l) = (enc x).cells ++ flat (List.map enc l) from rfl, e, List.take_add, List.take_left' (hc x), List.drop_left' (hc x), this]
  rfl
theorem headW [Inhabited α] (hc : SzC sz enc) (l : List α) (i f : Nat) (hf : f < sz) (h : i < l.length) : ((flat (List.map enc l)).drop (i * sz + f)).head? = (enc (rdn l i)).cells[f]? := by
 rw [← List.drop_drop, flat_at hc l i h, List.head?_drop, List.getElem?_append_left (by rw [hc]; exact hf)]
theorem takeW [Inhabited α] (hc : SzC sz enc) (l : List α) (i : Nat) (h : i < l.length) : ((flat (List.map enc l)).drop (i * sz)).take sz = (enc (rdn l i)).cells := by
 rw [flat_at hc l i h, List.take_left' (hc _)]
theorem lenW [Inhabited α] (hc : SzC sz enc) (l : List α) (i : Nat) (h : i < l.length) : sz ≤ ((flat (List.map enc l)).drop (i * sz)).length := by
 rw [flat_at hc l i h, List.length_append, hc]; omega
theorem putW [Inhabited α] (hc : SzC sz enc) (l : List α) (i f : Nat) (c : AV) (upd : α) (hu : (enc upd).cells = (enc (rdn l i)).cells.set f c) (hf : f < sz) (h : i < l.length) :
  putA (flat (List.map enc l)) (i * sz + f) [c] = flat (List.map enc (l.set i upd)) := by
 have hlen : (flat (List.map enc l)).length = l.length * sz := SzC.flat hc l
 have h1 : (i + 1) * sz ≤ l.length * sz := Nat.mul_le_mul_right _ h
 have h2 : (i + 1) * sz = i * sz + sz := Nat.succ_mul ..
 have e1 : putA (flat (List.map enc l)) (i * sz + f) [c] = (flat (List.map enc l)).set (i * sz + f) c := by
  unfold putA
  rw [List.set_eq_take_append_cons_drop, if_pos (by omega)]
  simp
 have e2 : flat (List.map enc l) = flat (List.map enc (l.take i)) ++ ((enc (rdn l i)).cells ++ flat (List.map enc (l.drop (i + 1)))) := by
  rw [← flat_tk hc, ← flat_at hc l i h, List.take_append_drop]
 have h3 : (flat (List.map enc (l.take i))).length = i * sz := by
  rw [SzC.flat hc, List.length_take, Nat.min_eq_left (by omega)]
 rw [e1, e2, List.set_append_right _ _ (by omega), h3, Nat.add_sub_cancel_left, List.set_append_left _ _ (by rw [hc]; exact hf), ← hu]
 rw [List.set_eq_take_append_cons_drop, if_pos h]
 simp [flat]
variable {P : Program} {L L' : List Item} {H : AHeap} {K : AV → AHeap → Prop}
/-- a field of an element of a list of one's own is written -/
theorem stoW [Inhabited α] (enc : α → AV) {t : TypeId} {y c : AV} {te : TyA} {id i f : Nat} {l : List α} (upd : α) (ht : tyA P t = some te) (hp : Pull L (.obj id (.cells (flat (List.map enc l)))) L') (hS : Hv H L) (h6 : te.size = 1) (hv : wkD c y) (h1 : c.cells = [c]) (hk : okCells c = true) (hc : SzC sz enc)
  (hu : (enc upd).cells = (enc (rdn l i)).cells.set f c) (hf : f < sz) (hl : i < l.length)
  (hK : ∀ (H' : AHeap), Hv H' (.obj id (.cells (flat (List.map enc (List.set l i upd)))) :: L') → K .undef H') : StoE P t (.ptr id (i * sz + f)) y H K := by
 have hlen : (flat (List.map enc l)).length = l.length * sz := SzC.flat hc l
 have h2 : (i + 1) * sz ≤ l.length * sz := Nat.mul_le_mul_right _ hl
 have h3 : (i + 1) * sz = i * sz + sz := Nat.succ_mul ..
 refine sto_goW ht hv hp hS hk (by rw [h1, h6]; rfl) (by rw [h6]; omega) ?_
 intro H' h
 rw [h1, putW hc l i f c upd hu hf hl] at h
 exact hK H' h
/-- make: a list of one's own, of zeros -/
theorem makeO {d : α} {t e : TypeId} {ti te : TyA} {z : AV} {k k' : IntKind} {x : Int} {N : Int} (hc : SzC sz enc) (h0 : 0 < sz) (h1 : tyA P t = some ti) (h2 : ti.kind = .slice e) (h3 : tyA P e = some te) (h4 : te.zero = some z) (hz : enc d = z) (h6 : te.size = sz) (hone : z.cells.all AV.one = true)
  (hN : N.toNat * te.bytes ≤ 140737488355328) (hN2 : N ≤ 4611686018427387904) (hS : Hv H L) (hx : 0 ≤ x ∧ x ≤ N) (hK : ∀ (v : AV) (H' : AHeap), Hv H' (.own sz v (flat (List.map enc (List.replicate x.toNat d))) :: L) → K v H') : MakeQ P t (.int k x) (.int k' x) H K := by
 have hx' : x = ((x.toNat : Nat) : Int) := by omega
 have hl : (flat (List.map enc (List.replicate x.toNat d))).length = x.toNat * sz := by rw [SzC.flat hc, List.length_replicate]
 have hr : List.map enc (List.replicate x.toNat d) = List.replicate x.toNat z := by rw [List.map_replicate, hz]
 refine ⟨ti, e, te, z, k, k', x.toNat, h1, h2, h3, h4, by rw [← hz, hc, h6], hone, by omega, by rw [← hx'], by rw [← hx'], Nat.le_trans (Nat.mul_le_mul_right _ (by omega)) hN, by omega, fun q => ?_, fun q => ?_⟩
 ·refine hK _ _ (hS.free (.inl ⟨te.size, rfl, ?_⟩) rfl)
  rw [q]; rfl
 ·refine hK _ _ (hS.push _ (.inr ⟨H.length, x.toNat, by rw [h6], hl, ?_⟩) (fun i h => by cases h; rfl))
  rw [get_new, hr]
theorem makeO1 {d : α} {t e : TypeId} {ti te : TyA} {z : AV} {k k' : IntKind} {x : Int} {N : Int} (hc : OneC enc) (h1 : tyA P t = some ti) (h2 : ti.kind = .slice e) (h3 : tyA P e = some te) (h4 : te.zero = some z) (hz : enc d = z) (h6 : te.size = 1) (hone : z.cells.all AV.one = true)
  (hN : N.toNat * te.bytes ≤ 140737488355328) (hN2 : N ≤ 4611686018427387904) (hS : Hv H L) (hx : 0 ≤ x ∧ x ≤ N) (hK : ∀ (v : AV) (H' : AHeap), Hv H' (.own 1 v (List.map enc (List.replicate x.toNat d)) :: L) → K v H') : MakeQ P t (.int k x) (.int k' x) H K :=
 makeO hc.toSz (by decide) h1 h2 h3 h4 hz h6 hone hN hN2 hS hx (fun v H' h => hK v H' (by rwa [flat_one enc hc] at h))
theorem WkA.same : ∀ (a : List AV), WkA a a
 | [] => WkA.nil
 | _ :: a => WkA.r (WkA.same a)
theorem WkA.setL : ∀ {a : List AV} {t : Nat} {y v : AV}, a[t]? = some y → wkA v y → WkA (a.set t v) a
 | x :: a, 0, y, v, h, hw => by simp at h; subst h; exact WkA.cons hw (WkA.same a)
 | x :: a, t + 1, y, v, h, hw => WkA.cons (wkA.refl x) (WkA.setL (by simpa using h) hw)
 | [], _, _, _, h, _ => by simp at h
theorem allU8_enc : ∀ (l : List Int), allU8 (List.map (AV.int .u8) l) = some l
 | [] => rfl
 | x :: l => by rw [List.map_cons]; show (allU8 (List.map (AV.int .u8) l)).map (x :: ·) = _; rw [allU8_enc l]; rfl
theorem atMake2 {K : AV → AHeap → Prop} {t : TypeId} {x y : AV} {H : AHeap} (d : Nat) (h : MakeQ P t x y H (kAt (some d) K)) : MakeQ P t x y H (kAt (some d) K) := h
end
end Go.Av
end
