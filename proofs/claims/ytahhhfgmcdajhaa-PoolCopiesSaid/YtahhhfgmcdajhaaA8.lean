/- the layer over the model, part 8 -/
import Derived.OrdersIn
import Derived.Test.YtahhhfgmcdajhaaA7
set_option autoImplicit false
set_option linter.unusedSimpArgs false
set_option linter.unusedVariables false
set_option linter.unnecessarySimpa false
section
set_option linter.unusedSimpArgs false
set_option linter.unusedVariables false
namespace Go.Av
open Go.RowKit

section congr
variable {P : Program} {B : Nat} {w0 : World} {a a' : List AV} {H H' : AHeap} {Y : Hand}

theorem map_congr_mem {α β : Type} {f g : α → β} {l : List α} (h : ∀ x, x ∈ l → f x = g x) : l.map f = l.map g := List.map_congr_left h

theorem pureA_congr (op : Op) (h : ∀ x, x ∈ op.operands.toList → ev a x = ev a' x) : pureA P H a op = pureA P H a' op := by
 cases op with
 | move x => simp only [pureA, h x (by simp [Op.operands])]
 | assign x => simp only [pureA, h x (by simp [Op.operands])]
 | pick c x y => simp only [pureA, h c (by simp [Op.operands]), h x (by simp [Op.operands]), h y (by simp [Op.operands])]
 | binOp o t x y t' => simp only [pureA, h x (by simp [Op.operands]), h y (by simp [Op.operands])]
 | unOp o t x => simp only [pureA, h x (by simp [Op.operands])]
 | convert s d x => simp only [pureA, h x (by simp [Op.operands])]
 | makeFunc fn first cap =>
  cases fn with
  | func k =>
   simp only [pureA]
   rw [map_congr_mem (l := first.toList) (f := ev a) (g := ev a') (fun x hx => h x (by simp [Op.operands] at hx ⊢; exact .inl hx)),
    map_congr_mem (l := cap.toList) (f := ev a) (g := ev a') (fun x hx => h x (by simp [Op.operands] at hx ⊢; exact .inr hx))]
  | _ => rfl
 | fieldAddr s x f => simp only [pureA, h x (by simp [Op.operands])]
 | field t x f => simp only [pureA, h x (by simp [Op.operands])]
 | indexAddr t x i => simp only [pureA, h x (by simp [Op.operands]), h i (by simp [Op.operands])]
 | index t x i => simp only [pureA, h x (by simp [Op.operands]), h i (by simp [Op.operands])]
 | slice t x lo hi mx =>
  simp only [pureA, h x (by simp [Op.operands])]
  have e1 : lo.map (ev a) = lo.map (ev a') := by cases lo with | none => rfl | some y => simp only [Option.map_some, h y (by simp [Op.operands])]
  have e2 : hi.map (ev a) = hi.map (ev a') := by cases hi with | none => rfl | some y => simp only [Option.map_some, h y (by simp [Op.operands])]
  have e3 : mx.map (ev a) = mx.map (ev a') := by cases mx with | none => rfl | some y => simp only [Option.map_some, h y (by simp [Op.operands])]
  rw [e1, e2, e3]
 | extract x i => simp only [pureA, h x (by simp [Op.operands])]
 | nilCheck x => simp only [pureA, h x (by simp [Op.operands])]
 | build t parts =>
  simp only [pureA]
  rw [map_congr_mem (l := parts.toList) (f := fun p => (p.1, ev a p.2)) (g := fun p => (p.1, ev a' p.2)) (fun p hp => by
   rw [h p.2 (by simp only [Op.operands]; exact List.mem_map.2 ⟨p, hp, rfl⟩)])]
 | load t x => simp only [pureA, h x (by simp [Op.operands])]
 | call c =>
  simp only [pureA]
  obtain ⟨callee, ⟨args⟩, ⟨tys⟩⟩ := c
  have hargs : ∀ x, x ∈ args → ev a x = ev a' x := fun x hx => h x (by simp [Op.operands, Call.operands]; exact .inr hx)
  simp only [biA]
  cases callee with
  | builtin b =>
   match args with
   | [x] => match tys with
    | [t] => cases b <;> simp only [hargs x (by simp)]
    | [] => cases b <;> rfl
    | _ :: _ :: _ => cases b <;> rfl
   | [x, y] => cases b <;> simp only [hargs x (by simp), hargs y (by simp)]
   | [] => cases b <;> rfl
   | _ :: _ :: _ :: _ => cases b <;> rfl
  | _ => rfl
 | _ => rfl

theorem eff_congr {op : Op} {K : AV → AHeap → Prop} (h : ∀ x, x ∈ op.operands.toList → ev a x = ev a' x) (he : AEff P B w0 Y a H op K) : AEff P B w0 Y a' H op K := by
 have key : AEff P B w0 Y a H op K = AEff P B w0 Y a' H op K := by
  cases op with
  | alloc e => rfl
  | box e x => simp only [AEff, h x (by simp [Op.operands])]
  | buildSlice t len parts =>
   simp only [AEff]
   rw [map_congr_mem (l := parts.toList) (f := fun p => (p.1, ev a p.2)) (g := fun p => (p.1, ev a' p.2)) (fun p hp => by
    rw [h p.2 (by simp only [Op.operands]; exact List.mem_map.2 ⟨p, hp, rfl⟩)])]
  | store t ad x => simp only [AEff, h ad (by simp [Op.operands]), h x (by simp [Op.operands])]
  | convert s d x => simp only [AEff, h x (by simp [Op.operands])]
  | makeSlice t l c => simp only [AEff, h l (by simp [Op.operands]), h c (by simp [Op.operands])]
  | call c =>
   obtain ⟨callee, ⟨args⟩, ⟨tys⟩⟩ := c
   have hargs : ∀ x, x ∈ args → ev a x = ev a' x := fun x hx => h x (by simp [Op.operands, Call.operands]; exact .inr hx)
   simp only [AEff]
   cases callee with
   | value f =>
    simp only
    rw [h f (by simp [Op.operands, Call.operands]), map_congr_mem hargs]
   | invoke => rfl
   | builtin b =>
    cases b <;> try rfl
    match args, tys with
    | [x, y], [t, t2] => simp only [hargs x (by simp), hargs y (by simp)]
    | [x, y], [] => rfl
    | [x, y], [_] => rfl
    | [x, y], _ :: _ :: _ :: _ => rfl
    | [], _ => rfl
    | [_], _ => rfl
    | _ :: _ :: _ :: _, _ => rfl
    match args, tys with
    | [x], [t] => simp only [hargs x (by simp)]
    | [x], [] => rfl
    | [x], _ :: _ :: _ => rfl
    | [], _ => rfl
    | _ :: _ :: _, _ => rfl
    match args, tys with
    | [x, y], [t, t2] => simp only [hargs x (by simp), hargs y (by simp)]
    | [x, y], [] => rfl
    | [x, y], [_] => rfl
    | [x, y], _ :: _ :: _ :: _ => rfl
    | [], _ => rfl
    | [_], _ => rfl
    | _ :: _ :: _ :: _, _ => rfl
    match args, tys with
    | [x, y], [t, t2] => simp only [hargs x (by simp), hargs y (by simp)]
    | [x, y], [] => rfl
    | [x, y], [_] => rfl
    | [x, y], _ :: _ :: _ :: _ => rfl
    | [], _ => rfl
    | [_], _ => rfl
    | _ :: _ :: _ :: _, _ => rfl
  | lookup t m k ok => simp only [AEff, MOp, h m (by simp [Op.operands]), h k (by simp [Op.operands])]
  | mapUpdate t m k x => simp only [AEff, MOp, h m (by simp [Op.operands]), h k (by simp [Op.operands]), h x (by simp [Op.operands])]
  | mapEntry t m k => simp only [AEff, MOp, h m (by simp [Op.operands]), h k (by simp [Op.operands])]
  | entryStore t m k x => simp only [AEff, MOp, h m (by simp [Op.operands]), h k (by simp [Op.operands]), h x (by simp [Op.operands])]
  | range t m => simp only [AEff, MOp, h m (by simp [Op.operands])]
  | next it b => cases b <;> simp only [AEff, MOp, h it (by simp [Op.operands])]
  | entry it => simp only [AEff, MOp, h it (by simp [Op.operands])]
  | makeMap t r => cases r <;> rfl
  | binOp o t x y t' =>
   have hx := h x (by simp [Op.operands])
   unfold AEff
   split <;> first
    | rfl
    | (rename_i he; cases he; simp only [hx])
    | (rename_i he; cases he)
  | _ => rfl
 rw [← key]; exact he

theorem aop_congr {op : Op} {K : AV → AHeap → Prop} (h : ∀ x, x ∈ op.operands.toList → ev a x = ev a' x) (he : AOp P B w0 Y a H op K) : AOp P B w0 Y a' H op K := by
 unfold AOp at he ⊢
 rw [← pureA_congr op h]
 split at he
 ·exact he
 ·exact eff_congr h he
end congr

/-- Does an operation write nothing that anybody could see? -/
def isFloat : Op → Bool
 | .binOp op _ _ y _ => !(isNil y && (isNe op).isSome)
 | .move _ | .assign _ | .pick .. | .unOp .. | .convert .. | .fieldAddr .. | .field .. | .indexAddr .. | .index .. | .slice .. | .extract .. | .nilCheck .. | .build .. | .load .. | .buildSlice .. => true
 | .makeFunc (.func _) _ _ => true
 | .call c => match c.callee with
  | .builtin .len | .builtin .min | .builtin .max => true
  | _ => false
 | _ => false
/-- May its value hang on the heap? -/
def heapDep : Op → Bool
 | .load .. | .call _ => true
 | _ => false

/-- Its value. -/
def flV (P : Program) (a : List AV) (H : AHeap) (op : Op) : Option AV :=
 match op with
 | .buildSlice t len parts => (effV P a H (.buildSlice t len parts)).map (·.1)
 | .convert s d x => convB P s d (ev a x)
 | op => pureA P H a op

def dstAt (ops : List Oper) (i : Nat) : Option Tmp := (ops[i]?).bind (·.dst)
def looksAt (ops : List Oper) (i : Nat) : List Tmp :=
 match ops[i]? with
 | some o => (o.op.operands.toList.filterMap fun | .tmp t => some t | _ => none) ++ (match o.guard with | some (g, _) => (dstAt ops g).toList | none => [])
 | none => []

def flO (P : Program) (ops : List Oper) (a : List AV) (H : AHeap) (i : Nat) : Option AV :=
 match ops[i]? with
 | some o => match wantA ops a o.guard with
  | some true => flV P a H o.op
  | some false => some (.tup [])
  | none => none
 | none => none

/-- A step of the order in which it is reckoned: a float, or an operation that writes and the floats that are to be asked again behind it. -/
structure St where
 i : Nat
 eff : Bool
 re : List Nat

def reOne (P : Program) (ops : List Oper) (a : List AV) (H : AHeap) (i : Nat) : Prop :=
 match ops[i]? with
 | some o => match wantA ops a o.guard, o.dst with
  | some true, some d => flV P a H o.op = some (a.getD d .undef)
  | some false, _ => True
  | _, _ => False
 | none => False
def reAll (P : Program) (ops : List Oper) (a : List AV) (H : AHeap) : List Nat → Prop
 | [] => True
 | i :: l => reOne P ops a H i ∧ reAll P ops a H l

def opC (K : List AV → AHeap → Prop) (dst : Option Tmp) (a : List AV) : AV → AHeap → Prop := fun v H' => K (putD a dst v) H'
def opT (P : Program) (B : Nat) (w0 : World) (Y : Hand) (K : List AV → AHeap → Prop) (op : Op) (dst : Option Tmp) : List AV → AHeap → Prop := fun a H => eop P B w0 Y a H op (opC K dst a)
def opF (K : List AV → AHeap → Prop) (dst : Option Tmp) : List AV → AHeap → Prop := fun a H => K (putD a dst (.tup [])) H

def opK (P : Program) (B : Nat) (w0 : World) (Y : Hand) (ops : List Oper) (o : Oper) (K : List AV → AHeap → Prop) (a : List AV) (H : AHeap) : Prop :=
 match o.guard with
 | none => eop P B w0 Y a H o.op fun v H' => K (putD a o.dst v) H'
 | some (j, want) => guardV (gval ops a j) want (fun a H => eop P B w0 Y a H o.op fun v H' => K (putD a o.dst v) H') (fun a H => K (putD a o.dst (.tup [])) H) a H

def reK (P : Program) (ops : List Oper) (re : List Nat) (K : List AV → AHeap → Prop) : List AV → AHeap → Prop := fun a H => reAll P ops a H re ∧ K a H

/-- A region, reckoned in the order of a plan. -/
def dops (P : Program) (B : Nat) (w0 : World) (Y : Hand) (ops : List Oper) : List St → (List AV → AHeap → Prop) → List AV → AHeap → Prop
 | [], K, a, H => K a H
 | s :: rest, K, a, H => match ops[s.i]? with
  | some o => opK P B w0 Y ops o (reK P ops s.re (dops P B w0 Y ops rest K)) a H
  | none => False

/-- A variable that is made at any time before it is asked. -/
def isAlloc : Oper → Bool
 | ⟨some _, .alloc _, _, _, _, none⟩ => true
 | _ => false
/-- May y, the one that may be early, run before x? -/
def lateOk (ops : List Oper) (la : Option Nat) (x y : St) : Bool :=
 (la == some y.i) && y.eff && (match dstAt ops y.i with | some d => !(looksAt ops x.i).contains d | none => false)
def pairOk (ops : List Oper) (rt : List (List Nat)) (la : Option Nat) (x y : St) : Bool :=
 (match dstAt ops x.i with | some d => !(looksAt ops y.i).contains d || (rt.getD y.i []).contains x.i | none => true) &&
 (match dstAt ops y.i with | some d => !(looksAt ops x.i).contains d || (y.eff && (rt.getD y.i []).contains x.i) | none => true) &&
 (match dstAt ops x.i, dstAt ops y.i with | some d, some d' => !(d == d') || (x.eff && y.eff && !(la == some x.i) && !(la == some y.i)) | _, _ => true) &&
 (!x.eff || (rt.getD y.i []).contains x.i || lateOk ops la x y) &&
 (x.eff || !y.eff || (rt.getD y.i []).contains x.i || y.re.contains x.i || (match ops[x.i]? with | some o => !heapDep o.op | none => false)) &&
 !(x.i == y.i)

def oneOk (ops : List Oper) (la : Option Nat) (y : St) : Bool :=
 match ops[y.i]? with
 | some o => (!(la == some y.i) || (y.eff && isAlloc o)) && (y.eff || (isFloat o.op && y.re.isEmpty)) && (match o.dst with | some d => y.eff || !(looksAt ops y.i).contains d | none => true)
 | none => false

def pairsOk (ops : List Oper) (rt : List (List Nat)) (la : Option Nat) : List St → Bool
 | [] => true
 | x :: l => l.all (pairOk ops rt la x) && pairsOk ops rt la l

def anyDeps (o : Oper) : List Nat := (o.after.toList.filter (Region.binds .any)).map (·.on)
def rtOk (ops : List Oper) (rt : List (List Nat)) : Bool :=
 (List.range ops.length).all fun i => match ops[i]? with
  | some o => (rt.getD i []).all fun j => (anyDeps o).any fun d => d == j || (rt.getD d []).contains j
  | none => false
/-- Does an order follow the edges of a mode? -/
def extOk (ops : List Oper) (md : Region.Mode) : List Nat → List Nat → Bool
 | _, [] => true
 | before, i :: l => (match ops[i]? with | some o => o.after.toList.all fun e => !Region.binds md e || before.contains e.on | none => false) && extOk ops md (i :: before) l
def coverOk (n : Nat) (l : List Nat) : Bool := (List.range n).all fun i => l.contains i

def planOk (ops : List Oper) (rt : List (List Nat)) (la : Option Nat) (plan : List St) (lt lg : List Nat) : Bool :=
 plan.all (oneOk ops la) && pairsOk ops rt la plan && rtOk ops rt && coverOk ops.length (plan.map (·.i)) &&
 (extOk ops .text [] lt && coverOk ops.length lt) && (extOk ops .gc [] lg && coverOk ops.length lg) && extOk ops .any [] lt

section
variable {P : Program} {B : Nat} {w0 : World} {rd : Option Nat} {a a' : List AV} {H H' : AHeap} {μ μ' : Nat → Nat × Nat} {Z Z' : Nat → Nat → Prop} {w w' : World} {n n' : Nat} {E0 : Nat} {ca : Act} {Y : Hand}

theorem eop_float {op : Op} {K : AV → AHeap → Prop} (hf : isFloat op = true) (h : eop P B w0 Y a H op K) : ∃ v, flV P a H op = some v ∧ K v H := by
 have some' : ∀ {o : Option AV}, someK o K H → ∃ v, o = some v ∧ K v H := fun h => h
 cases op with
 | buildSlice t len parts =>
  obtain ⟨v, H', h1, h2⟩ := h
  have hH : H' = H := by
   unfold effV at h1
   simp only at h1
   split at h1 <;> (try cases h1; done)
   split at h1 <;> (try cases h1; done)
   split at h1 <;> (try cases h1; done)
   split at h1 <;> (try cases h1; done)
   split at h1 <;> cases h1
   rfl
  subst hH
  exact ⟨v, by simp only [flV, h1, Option.map_some], h2⟩
 | makeFunc fn first cap => cases fn with
  | func k => exact ⟨_, rfl, h⟩
  | _ => cases hf
 | call c =>
  obtain ⟨callee, args, tys⟩ := c
  obtain ⟨args⟩ := args
  obtain ⟨tys⟩ := tys
  simp only [eop] at h
  unfold callE at h
  split at h
  ·cases hf
  ·cases hf
  ·cases hf
  ·exact some' h
  ·cases hf
  ·exact some' h
  ·exact some' h
  ·cases hf
  ·cases hf
  ·exact h.elim
 | binOp op t x y yt =>
  simp only [isFloat] at hf
  simp only [eop] at h
  unfold binE at h
  split at h
  ·rename_i ne hn hne
   rw [hn, hne] at hf; cases hf
  ·exact some' h
 | _ => first
  | exact ⟨_, rfl, h⟩
  | exact some' h
  | cases hf

theorem flV_sound {op : Op} {v : AV} (hf : isFloat op = true) (h : flV P a H op = some v) : AOp P B w0 Y a H op fun v' H' => v' = v ∧ H' = H := by
 have pure' : pureA P H a op = some v → AOp P B w0 Y a H op fun v' H' => v' = v ∧ H' = H := fun e => by unfold AOp; rw [e]; exact ⟨rfl, rfl⟩
 cases op with
 | buildSlice t len parts =>
  simp only [flV] at h
  cases he : effV P a H (.buildSlice t len parts) with
  | none => rw [he] at h; cases h
  | some p =>
   obtain ⟨v1, H1⟩ := p
   rw [he] at h; cases h
   have hH : H1 = H := by
    unfold effV at he
    simp only at he
    split at he <;> (try cases he; done)
    split at he <;> (try cases he; done)
    split at he <;> (try cases he; done)
    split at he <;> (try cases he; done)
    split at he <;> cases he
    rfl
   subst hH
   have : AEff P B w0 Y a H1 (.buildSlice t len parts) fun v' H' => v' = v1 ∧ H' = H1 := effV_sound ⟨v1, H1, he, rfl, rfl⟩
   exact this
 | convert s d x =>
  have hc : eop P B w0 Y a H (.convert s d x) fun v' H' => v' = v ∧ H' = H := ⟨v, h, rfl, rfl⟩
  exact eop_sound hc
 | _ => exact pure' h

theorem flV_congr {op : Op} (h : ∀ x, x ∈ op.operands.toList → ev a x = ev a' x) : flV P a H op = flV P a' H op := by
 cases op with
 | buildSlice t len parts =>
  simp only [flV, effV]
  rw [map_congr_mem (l := parts.toList) (f := fun p => (p.1, ev a p.2)) (g := fun p => (p.1, ev a' p.2)) (fun p hp => by
   rw [h p.2 (by simp only [Op.operands]; exact List.mem_map.2 ⟨p, hp, rfl⟩)])]
 | convert s d x => simp only [flV, h x (by simp [Op.operands])]
 | _ => exact pureA_congr (P := P) (H := H) _ h

theorem flV_heap {op : Op} (h : heapDep op = false) : flV P a H op = flV P a H' op := by
 cases op with
 | buildSlice t len parts =>
  simp only [flV, effV]
  split <;> try rfl
  split <;> try rfl
  split <;> try rfl
  split <;> try rfl
  split <;> rfl
 | makeFunc fn _ _ => cases fn <;> rfl
 | load => cases h
 | call => cases h
 | _ => rfl

theorem looks_ev {ops : List Oper} {i : Nat} {o : Oper} (ho : ops[i]? = some o) (h : ∀ t, t ∈ looksAt ops i → a.getD t .undef = a'.getD t .undef) : (∀ x, x ∈ o.op.operands.toList → ev a x = ev a' x) ∧ wantA ops a o.guard = wantA ops a' o.guard := by
 unfold looksAt at h
 rw [ho] at h
 simp only [List.mem_append] at h
 constructor
 ·intro x hx
  cases x with
  | tmp t => exact h t (.inl (List.mem_filterMap.2 ⟨.tmp t, hx, rfl⟩))
  | _ => rfl
 ·cases hg : o.guard with
  | none => rfl
  | some g =>
   obtain ⟨g, want⟩ := g
   rw [hg] at h
   simp only [wantA]
   have h : ∀ t, t ∈ (dstAt ops g).toList → a.getD t .undef = a'.getD t .undef := fun t ht => h t (.inr ht)
   unfold dstAt at h
   cases hd : (ops[g]?).bind (·.dst) with
   | none => rfl
   | some d =>
    rw [hd] at h
    simp only [h d (by simp)]

theorem flO_congr {ops : List Oper} {i : Nat} (h : ∀ t, t ∈ looksAt ops i → a.getD t .undef = a'.getD t .undef) : flO P ops a H i = flO P ops a' H i := by
 unfold flO
 cases ho : ops[i]? with
 | none => rfl
 | some o =>
  obtain ⟨h1, h2⟩ := looks_ev ho h
  simp only [h2, flV_congr h1]

/-- What a step's evaluation comes to. -/
theorem opK_spec {ops : List Oper} {o : Oper} {K : List AV → AHeap → Prop} (h : opK P B w0 Y ops o K a H) : ∃ b, wantA ops a o.guard = some b ∧ (b = true → eop P B w0 Y a H o.op fun v H' => K (putD a o.dst v) H') ∧ (b = false → K (putD a o.dst (.tup [])) H) := by
 unfold opK at h
 cases hg : o.guard with
 | none => rw [hg] at h; exact ⟨true, rfl, fun _ => h, fun e => by cases e⟩
 | some g =>
  obtain ⟨j, want⟩ := g
  rw [hg] at h
  exact guardV_sound h

theorem opK_float {ops : List Oper} {o : Oper} {i : Nat} {K : List AV → AHeap → Prop} (ho : ops[i]? = some o) (hf : isFloat o.op = true) (h : opK P B w0 Y ops o K a H) : ∃ v, flO P ops a H i = some v ∧ K (putD a o.dst v) H := by
 obtain ⟨b, hb, h1, h2⟩ := opK_spec h
 unfold flO
 rw [ho]
 simp only [hb]
 cases b with
 | true => exact eop_float hf (h1 rfl)
 | false => exact ⟨_, rfl, h2 rfl⟩

/-- A float is carried out. -/
theorem flO_run {ops : Array Oper} {i : Nat} {o : Oper} {v : AV} {Q : Exit → Act → World → Prop} {K' : Act → World → Prop} (hY : YSound P B w0 Y) (rd : Option Nat) (ho : ops[i]? = some o) (hf : isFloat o.op = true) (h : flO P ops.toList a H i = some v) (hR : R B w0 μ Z H w) (hA : AR E0 μ Z w H.length a ca)
  (hK : ∀ cv μ' Z' w', R B w0 μ' Z' H w' → VR μ' Z' w' H.length v cv → Ev μ Z H w μ' Z' H w' → K' (ca.put o.dst cv) w') : wpOpIn (FW rd) 0 P ops Q i K' ca w := by
 unfold flO at h
 have ho' : ops.toList[i]? = some o := by simpa using ho
 rw [ho'] at h
 simp only at h
 unfold wpOpIn
 rw [ho]
 simp only
 split at h
 ·rename_i hb
  have hw := wanted_of (g := o.guard) rfl hb hA.tmps
  rw [if_pos hw]
  have hop := flV_sound (B := B) (w0 := w0) (Y := Y) hf h
  refine lands_wp (aop_noDefer hop) (aop_lands rd hY hop hR hA.ev) ?_
  rintro v' cv μ' Z' H' w' k1 k2 k3 ⟨rfl, rfl⟩
  exact hK cv μ' Z' w' k1 k2 k3
 ·rename_i hb
  have hw := wanted_of (g := o.guard) rfl hb hA.tmps
  rw [if_neg (by rw [hw]; simp)]
  cases h
  exact ⟨fun _ _ => trivial, hK undef μ Z w hR vrSkip (Ev.refl μ Z H w)⟩
 ·cases h
end

theorem pairOk_spec {ops : List Oper} {rt : List (List Nat)} {la : Option Nat} {x y : St} (h : pairOk ops rt la x y = true) :
  (∀ d, dstAt ops x.i = some d → d ∈ looksAt ops y.i → x.i ∈ rt.getD y.i []) ∧ (∀ d, dstAt ops y.i = some d → d ∈ looksAt ops x.i → y.eff = true ∧ x.i ∈ rt.getD y.i []) ∧
  (∀ d, dstAt ops x.i = some d → dstAt ops y.i = some d → x.eff = true ∧ y.eff = true ∧ la ≠ some x.i ∧ la ≠ some y.i) ∧ (x.eff = true → x.i ∈ rt.getD y.i [] ∨ (la = some y.i ∧ y.eff = true ∧ ∃ d, dstAt ops y.i = some d ∧ d ∉ looksAt ops x.i)) ∧
  (x.eff = false → y.eff = true → x.i ∈ rt.getD y.i [] ∨ x.i ∈ y.re ∨ ∃ o, ops[x.i]? = some o ∧ heapDep o.op = false) ∧ x.i ≠ y.i := by
 unfold pairOk at h
 simp only [Bool.and_eq_true] at h
 obtain ⟨⟨⟨⟨⟨h1, h2⟩, h3⟩, h4⟩, h5⟩, h6⟩ := h
 refine ⟨?_, ?_, ?_, ?_, ?_, ?_⟩
 ·intro d hd hl
  rw [hd] at h1
  simp only [Bool.or_eq_true, Bool.not_eq_true', List.contains_eq_mem, decide_eq_false_iff_not, decide_eq_true_eq] at h1
  rcases h1 with h1 | h1
  ·exact absurd hl h1
  ·exact h1
 ·intro d hd hl
  rw [hd] at h2
  simp only [Bool.or_eq_true, Bool.and_eq_true, Bool.not_eq_true', List.contains_eq_mem, decide_eq_false_iff_not, decide_eq_true_eq] at h2
  rcases h2 with h2 | h2
  ·exact absurd hl h2
  ·exact h2
 ·intro d hd hd'
  rw [hd, hd'] at h3
  simp only [BEq.rfl, Bool.not_true, Bool.false_or, Bool.and_eq_true, Bool.not_eq_true', beq_eq_false_iff_ne, ne_eq] at h3
  exact ⟨h3.1.1.1, h3.1.1.2, h3.1.2, h3.2⟩
 ·intro he
  rw [he] at h4
  simp only [Bool.not_true, Bool.false_or, Bool.or_eq_true, List.contains_eq_mem, decide_eq_true_eq, lateOk, Bool.and_eq_true, beq_iff_eq] at h4
  rcases h4 with h4 | ⟨⟨h4, h5'⟩, h6'⟩
  ·exact .inl h4
  ·refine .inr ⟨h4, h5', ?_⟩
   split at h6'
   ·rename_i d hd
    exact ⟨d, hd, by simpa using h6'⟩
   ·cases h6'
 ·intro hx hy
  rw [hx, hy] at h5
  simp only [Bool.not_true, Bool.or_false, Bool.false_or, Bool.or_eq_true, List.contains_eq_mem, decide_eq_true_eq] at h5
  rcases h5 with (h5 | h5) | h5
  ·exact .inl h5
  ·exact .inr (.inl h5)
  ·split at h5
   ·rename_i o ho
    exact .inr (.inr ⟨o, ho, by simpa using h5⟩)
   ·cases h5
 ·intro e
  rw [e] at h6
  simp at h6

theorem pairsOk_spec {ops : List Oper} {rt : List (List Nat)} {la : Option Nat} : ∀ {l : List St}, pairsOk ops rt la l = true → l.Pairwise fun x y => pairOk ops rt la x y = true
 | [], _ => .nil
 | x :: l, h => by
  simp only [pairsOk, Bool.and_eq_true] at h
  exact .cons (fun y hy => List.all_eq_true.1 h.1 y hy) (pairsOk_spec h.2)

theorem oneOk_spec {ops : List Oper} {la : Option Nat} {y : St} (h : oneOk ops la y = true) : ∃ o, ops[y.i]? = some o ∧ (la = some y.i → y.eff = true ∧ isAlloc o = true) ∧ (y.eff = false → isFloat o.op = true ∧ y.re = [] ∧ ∀ d, o.dst = some d → d ∉ looksAt ops y.i) := by
 unfold oneOk at h
 split at h
 ·rename_i o ho
  simp only [Bool.and_eq_true] at h
  obtain ⟨⟨h0, h1⟩, h2⟩ := h
  refine ⟨o, ho, fun hla => ?_, fun he => ?_⟩
  ·rw [hla] at h0
   simpa using h0
  rw [he] at h1 h2
  simp only [Bool.false_or, Bool.and_eq_true, List.isEmpty_iff] at h1 h2
  refine ⟨h1.1, h1.2, fun d hd hl => ?_⟩
  rw [hd] at h2
  simp only [Bool.not_eq_true', List.contains_eq_mem, decide_eq_false_iff_not] at h2
  exact h2 hl
 ·cases h

theorem putD_len (a : List AV) (d : Option Tmp) (v : AV) : (putD a d v).length = a.length := by cases d <;> simp [putD]
theorem putD_ne {a : List AV} {d : Option Tmp} {v : AV} {t : Tmp} (h : d ≠ some t) : (putD a d v).getD t .undef = a.getD t .undef := by
 cases d with
 | none => rfl
 | some d =>
  have : d ≠ t := fun e => h (by rw [e])
  simp only [putD, List.getD, List.getElem?_set, if_neg this]
theorem putD_self {a : List AV} {t : Tmp} {v : AV} : (putD a (some t) v).getD t .undef = if t < a.length then v else .undef := by
 simp only [putD, List.getD, List.getElem?_set]
 by_cases h : t < a.length <;> simp [h]
theorem putD_comm {a : List AV} {d d' : Option Tmp} {v v' : AV} (h : ∀ t, d = some t → d' ≠ some t) : putD (putD a d v) d' v' = putD (putD a d' v') d v := by
 cases d with
 | none => rfl
 | some d => cases d' with
  | none => rfl
  | some d' => exact List.set_comm _ _ (fun e => h d rfl (by rw [e]))
theorem putD_same {a : List AV} {d : Option Tmp} {v : AV} : putD (putD a d v) d v = putD a d v := by
 cases d with
 | none => rfl
 | some d => exact List.set_set ..
theorem putD_get {a : List AV} {t : Tmp} : putD a (some t) (a.getD t .undef) = a := by
 simp only [putD]
 apply List.ext_getElem?
 intro i
 rw [List.getElem?_set]
 by_cases h : t = i
 ·subst h
  rw [if_pos rfl]
  by_cases hl : t < a.length
  ·simp [hl, List.getD]
  ·simp [hl]
 ·rw [if_neg h]

structure DInv (P : Program) (ops : Array Oper) (rt : List (List Nat)) (la : Option Nat) (pre rest : List St) (listed : Array Bool) (a aS : List AV) (H : AHeap) : Prop where
 size : listed.size = ops.size
 onlyPre : ∀ i, listed[i]? = some true → (∃ s, s ∈ pre ∧ s.i = i) ∨ (la = some i ∧ ∃ s, s ∈ rest ∧ s.i = i)
 effs : ∀ s, s ∈ pre → s.eff = true → listed[s.i]? = some true
 closed : ∀ i, listed[i]? = some true → ∀ j, j ∈ rt.getD i [] → listed[j]? = some true
 len : aS.length = a.length
 agree : ∀ t, (∀ s, s ∈ pre → s.eff = false → listed[s.i]? ≠ some true → dstAt ops.toList s.i ≠ some t) → (∀ s, s ∈ rest → la = some s.i → listed[s.i]? = some true → dstAt ops.toList s.i ≠ some t) → aS.getD t .undef = a.getD t .undef
 vals : ∀ s, s ∈ pre → s.eff = false → listed[s.i]? ≠ some true → ∃ v, flO P ops.toList a H s.i = some v ∧ putD a (dstAt ops.toList s.i) v = a

section
variable {P : Program} {B : Nat} {w0 : World} {rd : Option Nat} {a aS : List AV} {H H' : AHeap} {μ μ' : Nat → Nat × Nat} {Z Z' : Nat → Nat → Prop} {w w' : World} {n n' : Nat} {E0 : Nat} {ca : Act} {Y : Hand}
variable {ops : Array Oper} {rt : List (List Nat)} {la : Option Nat} {pre rest : List St} {listed : Array Bool} {K : List AV → AHeap → Prop}

theorem advance : ∀ {rest pre : List St} {a : List AV}, (pre ++ rest).Pairwise (fun x y => pairOk ops.toList rt la x y = true) → (∀ s, s ∈ rest → oneOk ops.toList la s = true) → DInv P ops rt la pre rest listed a aS H → dops P B w0 Y ops.toList rest K a H →
  ∃ pre' rest' a', pre' ++ rest' = pre ++ rest ∧ (rest' = [] ∨ ∃ e r, rest' = e :: r ∧ e.eff = true) ∧ DInv P ops rt la pre' rest' listed a' aS H ∧ (∃ q, rest = q ++ rest') ∧ dops P B w0 Y ops.toList rest' K a' H
 | [], pre, a, hp, ho, hI, hd => ⟨pre, [], a, rfl, .inl rfl, hI, ⟨[], rfl⟩, hd⟩
 | s :: r, pre, a, hp, ho, hI, hd => by
  by_cases he : s.eff = true
  ·exact ⟨pre, s :: r, a, rfl, .inr ⟨s, r, rfl, he⟩, hI, ⟨[], rfl⟩, hd⟩
  ·have he : s.eff = false := by simpa using he
   obtain ⟨o, h1, hlaE, h2⟩ := oneOk_spec (ho s (by simp))
   have hnla : la ≠ some s.i := fun e => by have := (hlaE e).1; rw [he] at this; cases this
   obtain ⟨hf, hre, hself⟩ := h2 he
   have hdst : dstAt ops.toList s.i = o.dst := by simp only [dstAt, h1, Option.bind_some]
   simp only [dops, h1] at hd
   obtain ⟨v, hv, hd⟩ := opK_float h1 hf hd
   rw [hre] at hd
   have hd : dops P B w0 Y ops.toList r K (putD a o.dst v) H := hd.2
   have hpair : ∀ s', s' ∈ pre → pairOk ops.toList rt la s' s = true := fun s' hs' => (List.pairwise_append.1 hp).2.2 s' hs' s (by simp)
   have hun : listed[s.i]? ≠ some true := by
    intro hl
    rcases hI.onlyPre _ hl with ⟨s', hs', e⟩ | ⟨e, _⟩
    ·exact (pairOk_spec (hpair s' hs')).2.2.2.2.2 e
    ·exact hnla e
   have hnext := advance (rest := r) (pre := pre ++ [s]) (a := putD a o.dst v) (by rw [List.append_assoc]; exact hp) (fun s' hs' => ho s' (by simp [hs'])) ?_ hd
   ·obtain ⟨pre', rest', a', q1, q2, q3, ⟨q, q5⟩, q4⟩ := hnext
    exact ⟨pre', rest', a', by rw [q1, List.append_assoc]; rfl, q2, q3, ⟨s :: q, by rw [q5]; rfl⟩, q4⟩
   ·refine ⟨hI.size, fun i hi => ?_, fun s' hs' he' => ?_, hI.closed, hI.len.trans (putD_len _ _ _).symm, fun t ht hl2 => ?_, fun s' hs' he' hl' => ?_⟩
    ·rcases hI.onlyPre i hi with ⟨s', q1, q2⟩ | ⟨q0, s', q1, q2⟩
     ·exact .inl ⟨s', by simp [q1], q2⟩
     ·rcases List.mem_cons.1 q1 with rfl | q1
      ·exact absurd (q2 ▸ q0) hnla
      ·exact .inr ⟨q0, s', q1, q2⟩
    ·rcases List.mem_append.1 hs' with hs' | hs'
     ·exact hI.effs s' hs' he'
     ·simp at hs'; subst hs'; rw [he] at he'; cases he'
    ·rw [putD_ne (by rw [← hdst]; exact ht s (by simp) he hun)]
     refine hI.agree t (fun s' hs' => ht s' (by simp [hs'])) (fun s' hs' q0 => ?_)
     rcases List.mem_cons.1 hs' with rfl | hs'
     ·exact absurd q0 hnla
     ·exact hl2 s' hs' q0
    ·rcases List.mem_append.1 hs' with hs' | hs'
     ·obtain ⟨v', q1, q2⟩ := hI.vals s' hs' he' hl'
      obtain ⟨p1, p2, p3, p4, p5, p6⟩ := pairOk_spec (hpair s' hs')
      refine ⟨v', ?_, ?_⟩
      ·rw [← q1]
       refine flO_congr (fun t ht => putD_ne ?_)
       intro e
       have := (p2 t (hdst.trans e) ht).1
       rw [he] at this; cases this
      ·rw [putD_comm, q2]
       intro t ht ht'
       have := (p3 t ht' (hdst.trans ht)).2.1
       rw [he] at this; cases this
     ·simp at hs'; subst hs'
      refine ⟨v, ?_, by rw [hdst]; exact putD_same⟩
      rw [← hv]
      refine flO_congr (fun t ht => putD_ne (fun e => hself t e ht))

/-- What is listed when an operation is ready. -/
theorem ready_spec {md : Region.Mode} {i : Nat} (hrt : rtOk ops.toList rt = true) (hcl : ∀ i, listed[i]? = some true → ∀ j, j ∈ rt.getD i [] → listed[j]? = some true) (hs : listed.size = ops.size) (h : i ∈ Region.ready md ops listed) :
  i < ops.size ∧ listed[i]? = some false ∧ ∀ j, j ∈ rt.getD i [] → listed[j]? = some true := by
 unfold Region.ready at h
 rw [List.mem_filter, List.mem_range] at h
 obtain ⟨hi, h⟩ := h
 simp only [Bool.and_eq_true, Bool.not_eq_true'] at h
 obtain ⟨h1, h2⟩ := h
 have hil : i < listed.size := by omega
 refine ⟨hi, ?_, ?_⟩
 ·rw [Array.getD_eq_getD_getElem?, Array.getElem?_eq_getElem hil] at h1
  rw [Array.getElem?_eq_getElem hil]
  simpa using h1
 ·intro j hj
  have := List.all_eq_true.1 hrt i (List.mem_range.2 (by simpa using hi))
  have ho : ops.toList[i]? = some ops[i] := by simp [hi]
  rw [ho] at this
  simp only at this
  have := List.all_eq_true.1 this j hj
  obtain ⟨d, hd1, hd2⟩ := List.any_eq_true.1 this
  rw [Array.getElem?_eq_getElem hi] at h2
  simp only [Option.map_some, Option.getD_some] at h2
  have hdl : listed[d]? = some true := by
   simp only [anyDeps, List.mem_map, List.mem_filter] at hd1
   obtain ⟨e, ⟨he1, he2⟩, rfl⟩ := hd1
   have hb : Region.binds md e = true := by
    unfold Region.binds at he2 ⊢
    cases hg : e.ground <;> simp only [hg] at he2 ⊢ <;> first | rfl | simp at he2
   have := (Array.all_eq_true_iff_forall_mem.1 h2) e (by simpa using he1)
   rw [hb] at this
   simp only [Bool.not_true, Bool.false_or] at this
   rw [Array.getD_eq_getD_getElem?] at this
   cases hx : listed[e.on]? with
   | none => rw [hx] at this; simp at this
   | some b => rw [hx] at this; simp at this; rw [this]
  simp only [Bool.or_eq_true, beq_iff_eq, List.contains_eq_mem, decide_eq_true_eq] at hd2
  rcases hd2 with rfl | hd2
  ·exact hdl
  ·exact hcl d hdl j hd2
end

section
variable {P : Program} {B : Nat} {w0 : World} {rd : Option Nat} {a aS : List AV} {H H' : AHeap} {μ μ' : Nat → Nat × Nat} {Z Z' : Nat → Nat → Prop} {w w' : World} {n n' : Nat} {E0 : Nat} {ca : Act} {Y : Hand}
variable {ops : Array Oper} {rt : List (List Nat)} {la : Option Nat} {pre rest : List St} {listed : Array Bool} {K : List AV → AHeap → Prop}

theorem set_true {i j : Nat} (h : (listed.setIfInBounds i true)[j]? = some true) : j = i ∨ listed[j]? = some true := by
 rw [Array.getElem?_setIfInBounds] at h
 by_cases hij : i = j
 ·exact .inl hij.symm
 ·rw [if_neg hij] at h; exact .inr h
theorem set_true' {i j : Nat} (h : listed[j]? = some true) : (listed.setIfInBounds i true)[j]? = some true := by
 rw [Array.getElem?_setIfInBounds]
 by_cases hij : i = j
 ·subst hij
  have := (Array.getElem?_eq_some_iff.1 h).1
  simp [this]
 ·rw [if_neg hij]; exact h
theorem set_self {i : Nat} (h : i < listed.size) : (listed.setIfInBounds i true)[i]? = some true := by
 rw [Array.getElem?_setIfInBounds]; simp [h]

theorem reAll_mem {ops : List Oper} : ∀ {l : List Nat} {i : Nat}, reAll P ops a H l → i ∈ l → reOne P ops a H i
 | [], _, _, h => by cases h
 | x :: l, i, h, hi => by
  rcases List.mem_cons.1 hi with rfl | hi
  ·exact h.1
  ·exact reAll_mem h.2 hi

/-- Behind an operation that writes. -/
theorem DInv.eff {e : St} {r : List St} {o : Oper} {v : AV} (hI : DInv P ops rt la pre (e :: r) listed a aS H) (hp : (pre ++ e :: r).Pairwise (fun x y => pairOk ops.toList rt la x y = true)) (he : e.eff = true) (ho : ops[e.i]? = some o)
  (hdep : ∀ j, j ∈ rt.getD e.i [] → listed[j]? = some true) (hre : reAll P ops.toList (putD a o.dst v) H' e.re) :
  DInv P ops rt la (pre ++ [e]) r (listed.setIfInBounds e.i true) (putD a o.dst v) (putD aS o.dst v) H' := by
 have ho' : ops.toList[e.i]? = some o := by simpa using ho
 have hdst : dstAt ops.toList e.i = o.dst := by simp only [dstAt, ho', Option.bind_some]
 have hlt : e.i < listed.size := by rw [hI.size]; exact (Array.getElem?_eq_some_iff.1 ho).1
 have hpair : ∀ s', s' ∈ pre → pairOk ops.toList rt la s' e = true := fun s' hs' => (List.pairwise_append.1 hp).2.2 s' hs' e (by simp)
 refine ⟨by simp [hI.size], fun i hi => ?_, fun s hs hse => ?_, fun i hi j hj => ?_, by rw [putD_len, putD_len]; exact hI.len, fun t ht hl2 => ?_, fun s hs hse hl => ?_⟩
 ·rcases set_true hi with rfl | hi
  ·exact .inl ⟨e, by simp, rfl⟩
  ·rcases hI.onlyPre i hi with ⟨s', q1, q2⟩ | ⟨q0, s', q1, q2⟩
   ·exact .inl ⟨s', by simp [q1], q2⟩
   ·rcases List.mem_cons.1 q1 with rfl | q1
    ·exact .inl ⟨s', by simp, q2⟩
    ·exact .inr ⟨q0, s', q1, q2⟩
 ·rcases List.mem_append.1 hs with hs | hs
  ·exact set_true' (hI.effs s hs hse)
  ·simp at hs; subst hs; exact set_self hlt
 ·rcases set_true hi with rfl | hi
  ·exact set_true' (hdep j hj)
  ·exact set_true' (hI.closed i hi j hj)
 ·have old : ∀ s, s ∈ pre → s.eff = false → listed[s.i]? ≠ some true → dstAt ops.toList s.i ≠ some t := fun s hs hse hl => ht s (by simp [hs]) hse (by
   intro hc
   rcases set_true hc with hc | hc
   ·exact (pairOk_spec (hpair s hs)).2.2.2.2.2 hc
   ·exact hl hc)
  by_cases hd : o.dst = some t
  ·rw [hd, putD_self, putD_self, hI.len]
  ·rw [putD_ne hd, putD_ne hd]
   refine hI.agree t old (fun s' hs' q0 q1 => ?_)
   rcases List.mem_cons.1 hs' with rfl | hs'
   ·rw [hdst]; exact hd
   ·exact hl2 s' hs' q0 (set_true' q1)
 ·rcases List.mem_append.1 hs with hs | hs
  ·have hl' : listed[s.i]? ≠ some true := fun hc => hl (set_true' hc)
   obtain ⟨v', q1, q2⟩ := hI.vals s hs hse hl'
   obtain ⟨p1, p2, p3, p4, p5, p6⟩ := pairOk_spec (hpair s hs)
   have hlook : ∀ t, t ∈ looksAt ops.toList s.i → (putD a o.dst v).getD t .undef = a.getD t .undef := fun t ht => putD_ne (fun ed => hl' (hdep _ (p2 t (hdst.trans ed) ht).2))
   have hput : ∀ u, putD a (dstAt ops.toList s.i) u = a → putD (putD a o.dst v) (dstAt ops.toList s.i) u = putD a o.dst v := by
    intro u hu
    rw [putD_comm, hu]
    intro t ht ht'
    have := (p3 t ht' (hdst.trans ht)).1
    rw [hse] at this; cases this
   rcases p5 hse he with h5 | h5 | ⟨os, h5, h6⟩
   ·exact absurd (hdep _ h5) hl'
   ·have hr := reAll_mem hre h5
    unfold reOne at hr
    split at hr
    ·rename_i os hos
     have hw := (looks_ev hos hlook).2
     split at hr
     ·rename_i d hw1 hd1
      refine ⟨(putD a o.dst v).getD d .undef, ?_, ?_⟩
      ·unfold flO
       rw [hos]
       simp only [hw1, hr]
      ·have : dstAt ops.toList s.i = some d := by simp only [dstAt, hos, Option.bind_some, hd1]
       rw [this]
       exact putD_get
     ·rename_i hw1
      refine ⟨v', ?_, hput v' q2⟩
      unfold flO at q1 ⊢
      rw [hos] at q1 ⊢
      rw [hw] at hw1
      simp only [hw1, hw] at q1 ⊢
      exact q1
     ·exact hr.elim
    ·exact hr.elim
   ·refine ⟨v', ?_, hput v' q2⟩
    rw [flO_congr hlook, ← q1]
    unfold flO
    rw [h5]
    simp only [flV_heap (H := H') (H' := H) h6]
  ·simp at hs; subst hs; rw [he] at hse; cases hse

/-- Behind a float. -/
theorem DInv.float {s : St} {o : Oper} {v : AV} (hI : DInv P ops rt la pre rest listed a aS H) (hp : (pre ++ rest).Pairwise (fun x y => pairOk ops.toList rt la x y = true)) (hs : s ∈ pre) (he : s.eff = false) (ho : ops[s.i]? = some o)
  (hv : putD a (dstAt ops.toList s.i) v = a) (hdep : ∀ j, j ∈ rt.getD s.i [] → listed[j]? = some true) :
  DInv P ops rt la pre rest (listed.setIfInBounds s.i true) a (putD aS o.dst v) H := by
 have ho' : ops.toList[s.i]? = some o := by simpa using ho
 have hdst : dstAt ops.toList s.i = o.dst := by simp only [dstAt, ho', Option.bind_some]
 have hlt : s.i < listed.size := by rw [hI.size]; exact (Array.getElem?_eq_some_iff.1 ho).1
 refine ⟨by simp [hI.size], fun i hi => ?_, fun s' hs' hse => set_true' (hI.effs s' hs' hse), fun i hi j hj => ?_, by rw [putD_len]; exact hI.len, fun t ht hl2 => ?_, fun s' hs' hse hl => hI.vals s' hs' hse (fun hc => hl (set_true' hc))⟩
 ·rcases set_true hi with rfl | hi
  ·exact .inl ⟨s, hs, rfl⟩
  ·exact hI.onlyPre i hi
 ·rcases set_true hi with rfl | hi
  ·exact set_true' (hdep j hj)
  ·exact set_true' (hI.closed i hi j hj)
 ·by_cases hd : o.dst = some t
  ·rw [hdst, hd] at hv
   rw [hd, putD_self, hI.len, ← hv, putD_self]
   simp [putD_len]
  ·rw [putD_ne hd]
   refine hI.agree t (fun s' hs' hse hl => ?_) (fun s' hs' q0 q1 => hl2 s' hs' q0 (set_true' q1))
   by_cases hc : s'.i = s.i
   ·rw [hc, hdst]; exact hd
   ·refine ht s' hs' hse (fun h => ?_)
    rcases set_true h with h | h
    ·exact hc h
    ·exact hl h

/-- The temps that an operation looks at are what the plan says. -/
theorem DInv.looks {i : Nat} {x : St} (hI : DInv P ops rt la pre rest listed a aS H) (hx : ∀ s, s ∈ pre → s.eff = false → listed[s.i]? ≠ some true → s.i ≠ x.i → (∀ d, dstAt ops.toList s.i = some d → d ∈ looksAt ops.toList x.i → s.i ∈ rt.getD x.i []))
  (hself : x.eff = false → ∀ d, dstAt ops.toList x.i = some d → d ∉ looksAt ops.toList x.i) (hns : x.eff = true → ∀ s, s ∈ pre → s.i ≠ x.i) (hdep : ∀ j, j ∈ rt.getD x.i [] → listed[j]? = some true)
  (hlate : ∀ s, s ∈ rest → la = some s.i → listed[s.i]? = some true → ∀ d, dstAt ops.toList s.i = some d → d ∉ looksAt ops.toList x.i) :
  ∀ t, t ∈ looksAt ops.toList x.i → aS.getD t .undef = a.getD t .undef := by
 intro t ht
 refine hI.agree t (fun s hs hse hl hd => ?_) (fun s hs q0 q1 hd => hlate s hs q0 q1 t hd ht)
 by_cases hsx : s.i = x.i
 ·cases hxe : x.eff with
  | true => exact hns hxe s hs hsx
  | false => rw [hsx] at hd; exact hself hxe t hd ht
 ·exact hl (hdep _ (hx s hs hse hl hsx t hd ht))

theorem ext_ready {md : Region.Mode} (hs : listed.size = ops.size) : ∀ {l before : List Nat}, extOk ops.toList md before l = true → (∀ i, i ∈ before → listed[i]? = some true) → (∃ i, i ∈ l ∧ listed[i]? = some false) → Region.ready md ops listed ≠ []
 | [], _, _, _, ⟨i, hi, _⟩ => by cases hi
 | i :: l, before, h, hb, hex => by
  simp only [extOk, Bool.and_eq_true] at h
  by_cases hl : listed[i]? = some true
  ·refine ext_ready hs h.2 (fun j hj => ?_) ?_
   ·rcases List.mem_cons.1 hj with rfl | hj
    ·exact hl
    ·exact hb j hj
   ·obtain ⟨k, hk1, hk2⟩ := hex
    rcases List.mem_cons.1 hk1 with rfl | hk1
    ·rw [hl] at hk2; cases hk2
    ·exact ⟨k, hk1, hk2⟩
  ·intro hempty
   have h1 := h.1
   split at h1
   ·rename_i o ho
    have hi : i < ops.size := by have := (List.getElem?_eq_some_iff.1 ho).1; simpa using this
    have ho2 : ops[i]? = some o := by simpa using ho
    have hmem : i ∈ Region.ready md ops listed := by
     unfold Region.ready
     rw [List.mem_filter, List.mem_range]
     refine ⟨hi, ?_⟩
     have hil : i < listed.size := by omega
     have hf : listed[i]? = some false := by
      rw [Array.getElem?_eq_getElem hil] at hl ⊢
      cases hx : listed[i] with
      | true => rw [hx] at hl; exact absurd rfl hl
      | false => rfl
     rw [Array.getD_eq_getD_getElem?, hf, ho2]
     simp only [Option.getD_some, Bool.not_false, Bool.true_and, Option.map_some]
     refine Array.all_eq_true_iff_forall_mem.2 fun e hem => ?_
     have := List.all_eq_true.1 h1 e (by simpa using hem)
     simp only [Bool.or_eq_true, List.contains_eq_mem, decide_eq_true_eq] at this ⊢
     rcases this with h | h
     ·exact .inl h
     ·refine .inr ?_
      rw [Array.getD_eq_getD_getElem?, hb _ h]; rfl
    rw [hempty] at hmem; cases hmem
   ·cases h1

theorem count_pos {l : List Bool} (h : 0 < l.count false) : ∃ i : Nat, l[i]? = some false := by
 have := List.count_pos_iff.1 h
 obtain ⟨i, hi, e⟩ := List.mem_iff_getElem.1 this
 exact ⟨i, by rw [List.getElem?_eq_getElem hi, e]⟩

theorem count_set {i : Nat} (h : listed[i]? = some false) {f : Nat} (hc : listed.toList.count false = f + 1) : (listed.setIfInBounds i true).toList.count false = f := by
 have hlt : i < listed.toList.length := by have := (Array.getElem?_eq_some_iff.1 h).1; simpa using this
 have hg : listed.toList[i] = false := by have := (Array.getElem?_eq_some_iff.1 h).2; simpa using this
 rw [Array.toList_setIfInBounds, List.count_set hlt, hg]
 simp [hc]

/-- A block that is nobody's. -/
theorem R.allocFree (hR : R B w0 μ Z H w) (ob : Obj) : R B w0 μ Z H (w.alloc ob) ∧ Ev μ Z H w μ Z H (w.alloc ob) := by
 have hsz : (w.alloc ob).heap.size = w.heap.size + 1 := by simp
 have hz : ∀ c o, Z c o → (w.alloc ob).cell? ⟨c, o, none⟩ = w.cell? ⟨c, o, none⟩ := fun c o h => cell_alloc w ob c o (hR.zlt c o h)
 refine ⟨⟨hR.below.alloc hR.hB ob, by have := hR.hB; omega, fun c o h => by have := hR.zlt c o h; omega, fun id o hid => ?_, hR.inj⟩, ?_⟩
 ·have hlt := (List.getElem?_eq_some_iff.1 hid).1
  refine OR.keep (hR.obj id o hid) hlt (Nat.le_refl _) (fun _ _ => rfl) (fun _ _ h => h) hz (fun c hc => shape_alloc w ob c hc) (by omega) (fun ha => ?_) (fun _ h => h)
  have := hR.lt hid ha
  exact Below.heap_alloc w ob _ this
 ·refine ⟨Nat.le_refl _, fun _ _ => rfl, fun _ _ h => h, hz, fun c hc => shape_alloc w ob c hc, by omega, fun c hc _ => Below.heap_alloc w ob c hc, fun id o h ha => .inr ⟨id, o, h, ha, rfl⟩, fun _ _ h => .inl h⟩

/-- A variable that was made early, and is nobody's yet. -/
def Pend (P : Program) (B : Nat) (ops : Array Oper) (ws : World) (i : Nat) (aS : List AV) (H : AHeap) (μ : Nat → Nat × Nat) (Z : Nat → Nat → Prop) (w : World) (ca : Act) : Prop :=
 ∃ (o : Oper) (d : Tmp) (e : TypeId) (inf : TypeInfo) (zv : Value) (c0 : Nat), ops[i]? = some o ∧ o.dst = some d ∧ o.op = .alloc e ∧ o.guard = none ∧ P.info? e = some inf ∧ inf.zero = some zv ∧ (d < ca.tmps.size → ca.tmps[d]? = some (.pointer (some ⟨c0, 0, none⟩))) ∧
  ws.heap.size ≤ c0 ∧ c0 < w.heap.size ∧ B ≤ c0 ∧ w.heap[c0]? = some (.cells zv.cells e (0, 0)) ∧ (∀ (id : Nat) (o : AObj), H[id]? = some o → o.alive = true → (μ id).1 ≠ c0) ∧ (∀ k, ¬ Z c0 k)

theorem Pend.step {ws : World} {i : Nat} {d' : Option Tmp} {v : AV} {cv : Value} (h : Pend P B ops ws i aS H μ Z w ca) (hE : Ev μ Z H w μ' Z' H' w') (hd : ∀ d, dstAt ops.toList i = some d → d' ≠ some d) : Pend P B ops ws i (putD aS d' v) H' μ' Z' w' (ca.put d' cv) := by
 obtain ⟨o, d, e, inf, zv, c0, h1, h2, h3, h4, h5, h6, h7, h8, h9, h10, h11, h12, h13⟩ := h
 have hda : dstAt ops.toList i = some d := by
  have : ops.toList[i]? = some o := by simpa using h1
  simp only [dstAt, this, Option.bind_some, h2]
 refine ⟨o, d, e, inf, zv, c0, h1, h2, h3, h4, h5, h6, ?_, h8, Nat.lt_of_lt_of_le h9 hE.size, h10, ?_, ?_, ?_⟩
 ·have hne := hd d hda
  cases d' with
  | none => exact h7
  | some t =>
   have hne' : t ≠ d := fun e => hne (by rw [e])
   intro hlt
   have hlt' : d < ca.tmps.size := by simpa [Act.put] using hlt
   simp only [Act.put, Array.getElem?_setIfInBounds, if_neg hne']
   exact h7 hlt'
 ·rw [hE.frame c0 h9 h12]; exact h11
 ·intro id ob hid ha hc
  rcases hE.own id ob hid ha with h | ⟨j, oj, q1, q2, q3⟩
  ·omega
  ·exact h12 j oj q1 q2 (q3.trans hc)
 ·intro k hk
  rcases hE.znew c0 k hk with h | h | ⟨j, oj, q1, q2, q3⟩
  ·exact h13 k h
  ·omega
  ·exact h12 j oj q1 q2 q3

/-- It is taken over. -/
theorem R.adopt (hR : R B w0 μ Z H w) {c0 : Nat} {e : TypeId} {inf : TypeInfo} {zv : Value} {z : AV} (hz : z = ofVal zv) (h1 : z.cells.all AV.one = true) (h9 : c0 < w.heap.size) (h10 : B ≤ c0) (h11 : w.heap[c0]? = some (.cells zv.cells e (0, 0)))
  (h12 : ∀ (id : Nat) (o : AObj), H[id]? = some o → o.alive = true → (μ id).1 ≠ c0) (h13 : ∀ k, ¬ Z c0 k) : R B w0 (ext μ H.length (c0, 0)) Z (H ++ [.cells z.cells]) w := by
 refine ⟨hR.below, hR.hB, hR.zlt, fun id o hid => ?_, fun i j oi oj hi hj hai haj he => ?_⟩
 ·have hl1 : (H ++ [AObj.cells z.cells]).length = H.length + 1 := by simp
  rw [hl1]
  by_cases hlt : id < H.length
  ·rw [List.getElem?_append_left hlt] at hid
   exact OR.keep (hR.obj id o hid) hlt (by omega) (fun i hi => ext_lt hi) (fun _ _ h => h) (fun _ _ _ => rfl) (fun _ _ => rfl) (Nat.le_refl _) (fun _ => rfl) (fun _ h => h)
  ·have : id = H.length := by
    have := (List.getElem?_eq_some_iff.1 hid).1
    simp at this; omega
   subst this
   simp at hid
   subst hid
   have hc := CR.of_vrs (μ := ext μ H.length (c0, 0)) (Z := Z) (w := w) (n := H.length + 1) (zero_vrs (te := default) hz) h1
   refine ⟨by rw [ext_eq]; exact h10, by rw [ext_eq]; exact h13, zv.cells, e, (0, 0), by rw [ext_eq]; exact h11, ?_, by rw [ext_eq]; exact hc.1, ?_⟩
   ·intro o _
    rw [ext_eq]
    simp only [World.frozen?, h11]
    simp
   ·intro j v hj
    rw [ext_eq]
    exact hc.2 j v hj
 ·by_cases h1' : i < H.length
  ·rw [ext_lt h1'] at he
   rw [List.getElem?_append_left h1'] at hi
   by_cases h2' : j < H.length
   ·rw [ext_lt h2'] at he
    rw [List.getElem?_append_left h2'] at hj
    exact hR.inj i j oi oj hi hj hai haj he
   ·have : j = H.length := by
     have := (List.getElem?_eq_some_iff.1 hj).1
     simp at this; omega
    subst this
    rw [ext_eq] at he
    exact absurd he (h12 i oi hi hai)
  ·have : i = H.length := by
    have := (List.getElem?_eq_some_iff.1 hi).1
    simp at this; omega
   subst this
   by_cases h2' : j < H.length
   ·rw [ext_lt h2', ext_eq] at he
    rw [List.getElem?_append_left h2'] at hj
    exact absurd he.symm (h12 j oj hj haj)
   ·have := (List.getElem?_eq_some_iff.1 hj).1
    simp at this; omega

theorem pair_of {l : List St} {x y : St} (hl : l.Pairwise fun x y => pairOk ops.toList rt la x y = true) (hx : x ∈ l) (hy : y ∈ l) (hne : x.i ≠ y.i) : pairOk ops.toList rt la x y = true ∨ pairOk ops.toList rt la y x = true := by
 induction hl with
 | nil => cases hx
 | cons h _ ih =>
  rcases List.mem_cons.1 hx with e1 | hx2
  ·rcases List.mem_cons.1 hy with e2 | hy2
   ·exact absurd (by rw [e1, e2]) hne
   ·exact .inl (e1 ▸ h _ hy2)
  ·rcases List.mem_cons.1 hy with e2 | hy2
   ·exact .inr (e2 ▸ h _ hx2)
   ·exact ih hx2 hy2

theorem isAlloc_spec {o : Oper} (h : isAlloc o = true) : ∃ d e, o.dst = some d ∧ o.op = .alloc e ∧ o.guard = none := by
 unfold isAlloc at h
 split at h
 ·exact ⟨_, _, rfl, rfl, rfl⟩
 ·cases h

/-- The waiting variable is taken over, where it is its turn. -/
theorem adopt_step {ws : World} {e : St} {r : List St} {μs : Nat → Nat × Nat} {Zs : Nat → Nat → Prop} {Hs : AHeap} (hpairs : (pre ++ e :: r).Pairwise fun x y => pairOk ops.toList rt la x y = true) (he : e.eff = true) (hle : listed[e.i]? = some true) (hI : DInv P ops rt la pre (e :: r) listed a aS H) (hd : dops P B w0 Y ops.toList (e :: r) K a H) (hR : R B w0 μ Z H w) (hA : AR E0 μ Z w H.length aS ca)
  (hEs : Ev μs Zs Hs ws μ Z H w) (hP : Pend P B ops ws e.i aS H μ Z w ca) : ∃ a' aS' H' μ', DInv P ops rt la (pre ++ [e]) r listed a' aS' H' ∧ dops P B w0 Y ops.toList r K a' H' ∧ R B w0 μ' Z H' w ∧ AR E0 μ' Z w H'.length aS' ca ∧ Ev μs Zs Hs ws μ' Z H' w := by
 obtain ⟨o, d, ty, inf, zv, c0, h1, h2, h3, h4, h5, h6, h7, h8, h9, h10, h11, h12, h13⟩ := hP
 have ho : ops.toList[e.i]? = some o := by simpa using h1
 obtain ⟨dst, op, oty, pos, af, gd⟩ := o
 simp only at h2 h3 h4
 subst h2; subst h3; subst h4
 simp only [dops, ho] at hd
 simp only [opK, eop] at hd
 obtain ⟨v, H1, q1, q2⟩ := hd
 unfold effV at q1
 simp only at q1
 split at q1
 ·rename_i te hte
  split at q1
  ·rename_i z hz
   split at q1
   ·rename_i hone
    cases q1
    obtain ⟨inf', zv', k1, k2, k3, _⟩ := zero_some (w := w) hte hz
    rw [h5] at k1; cases k1
    rw [h6] at k2; cases k2
    have hI' := hI.eff (v := .ptr H.length 0) (H' := H ++ [.cells z.cells]) hpairs he h1 (hI.closed _ hle) q2.1
    have hset : listed.setIfInBounds e.i true = listed := by
     apply Array.ext_getElem?
     intro k
     rw [Array.getElem?_setIfInBounds]
     split
     ·rename_i hk
      subst hk
      split
      ·exact hle.symm
      ·rename_i hk; exact (Array.getElem?_eq_none (by omega)).symm
     ·rfl
    rw [hset] at hI'
    have hR' := hR.adopt (e := ty) (inf := inf) k3 hone h9 h10 h11 h12 h13
    have hlen : (H ++ [AObj.cells z.cells]).length = H.length + 1 := by simp
    refine ⟨_, _, _, ext μ H.length (c0, 0), hI', q2.2, hR', ?_, ?_⟩
    ·rw [hlen]
     have ht : VRs (ext μ H.length (c0, 0)) Z w (H.length + 1) aS ca.tmps := hA.tmps.mono (Nat.le_succ _) (fun i hi => ext_lt hi) (fun _ _ h => h) (fun _ _ _ => rfl) (fun _ _ => rfl)
     refine ⟨⟨by rw [putD_len]; exact ht.1, fun j u hj => ?_⟩, hA.e0, hA.marks⟩
     simp only [putD] at hj
     rw [List.getElem?_set] at hj
     split at hj
     ·rename_i hdj
      subst hdj
      split at hj
      ·rename_i hlt
       cases hj
       refine ⟨_, h7 (by rw [← ht.1]; exact hlt), ?_⟩
       have := VR.ptr (μ := ext μ H.length (c0, 0)) (Z := Z) (w := w) (n := H.length + 1) H.length 0 (by omega)
       rw [ext_eq] at this
       exact this
      ·cases hj
     ·exact ht.2 j u hj
    ·refine ⟨by rw [hlen]; have := hEs.len; omega, fun i hi => (ext_lt (Nat.lt_of_lt_of_le hi hEs.len)).trans (hEs.mu i hi), hEs.z, hEs.zcell, hEs.shape, hEs.size, hEs.frame, fun id o hid ha => ?_, hEs.znew⟩
     by_cases hlt : id < H.length
     ·rw [List.getElem?_append_left hlt] at hid
      rw [ext_lt hlt]
      exact hEs.own id o hid ha
     ·have : id = H.length := by
       have := (List.getElem?_eq_some_iff.1 hid).1
       simp at this; omega
      subst this
      rw [ext_eq]
      exact .inl h8
   ·cases q1
  ·cases q1
 ·cases q1

/-- Floats are gone over, and the waiting variable is taken over. -/
theorem settle {ws : World} {μs : Nat → Nat × Nat} {Zs : Nat → Nat → Prop} {Hs : AHeap} (hpairs : (pre ++ rest).Pairwise fun x y => pairOk ops.toList rt la x y = true) (hone : ∀ s, s ∈ pre ++ rest → oneOk ops.toList la s = true) (hI : DInv P ops rt la pre rest listed a aS H) (hd : dops P B w0 Y ops.toList rest K a H) (hR : R B w0 μ Z H w) (hA : AR E0 μ Z w H.length aS ca)
  (hEs : Ev μs Zs Hs ws μ Z H w) (hP : ∀ s, s ∈ rest → la = some s.i → listed[s.i]? = some true → Pend P B ops ws s.i aS H μ Z w ca) :
  ∃ pre' rest' a' aS' H' μ', pre' ++ rest' = pre ++ rest ∧ (rest' = [] ∨ ∃ e r, rest' = e :: r ∧ e.eff = true ∧ listed[e.i]? ≠ some true) ∧ DInv P ops rt la pre' rest' listed a' aS' H' ∧ dops P B w0 Y ops.toList rest' K a' H' ∧ R B w0 μ' Z H' w ∧ AR E0 μ' Z w H'.length aS' ca ∧ Ev μs Zs Hs ws μ' Z H' w ∧
   (∀ s, s ∈ rest' → la = some s.i → listed[s.i]? = some true → Pend P B ops ws s.i aS' H' μ' Z w ca) := by
 obtain ⟨pre1, rest1, a1, e1, e2, e3, ⟨q, e5⟩, e4⟩ := advance hpairs (fun s hs => hone s (by simp [hs])) hI hd
 rcases e2 with rfl | ⟨e, r, rfl, he⟩
 ·exact ⟨pre1, [], a1, aS, H, μ, e1, .inl rfl, e3, e4, hR, hA, hEs, fun s hs => by cases hs⟩
 ·by_cases hle : listed[e.i]? = some true
  ·have hp1 : (pre1 ++ e :: r).Pairwise fun x y => pairOk ops.toList rt la x y = true := by rw [e1]; exact hpairs
   have hla : la = some e.i := by
    rcases e3.onlyPre _ hle with ⟨s', q1, q2⟩ | ⟨q0, _⟩
    ·exact absurd q2 (pairOk_spec ((List.pairwise_append.1 hp1).2.2 s' q1 e (by simp))).2.2.2.2.2
    ·exact q0
   obtain ⟨a2, aS2, H2, μ2, k1, k2, k3, k4, k5⟩ := adopt_step hp1 he hle e3 e4 hR hA hEs (hP e (by rw [e5]; simp) hla hle)
   have hp2 : ((pre1 ++ [e]) ++ r).Pairwise fun x y => pairOk ops.toList rt la x y = true := by rw [List.append_assoc]; exact hp1
   obtain ⟨pre3, rest3, a3, f1, f2, f3, ⟨q', f5⟩, f4⟩ := advance hp2 (fun s hs => hone s (by rw [← e1]; simp [hs])) k1 k2
   have hno : ∀ s, s ∈ rest3 → la ≠ some s.i := by
    intro s hs hc
    rw [hla] at hc
    have hsr : s ∈ r := by rw [f5]; simp [hs]
    have hpe := (List.pairwise_cons.1 (List.pairwise_append.1 hp1).2.1).1 s hsr
    exact (pairOk_spec hpe).2.2.2.2.2 (Option.some.inj hc)
   refine ⟨pre3, rest3, a3, aS2, H2, μ2, by rw [f1, List.append_assoc, ← e1]; rfl, ?_, f3, f4, k3, k4, k5, fun s hs hc => absurd hc (hno s hs)⟩
   rcases f2 with rfl | ⟨e', r', rfl, he'⟩
   ·exact .inl rfl
   ·refine .inr ⟨e', r', rfl, he', fun hl => ?_⟩
    have hp3 : (pre3 ++ e' :: r').Pairwise fun x y => pairOk ops.toList rt la x y = true := by rw [f1]; exact hp2
    rcases f3.onlyPre _ hl with ⟨s', q1, q2⟩ | ⟨q0, _⟩
    ·exact absurd q2 (pairOk_spec ((List.pairwise_append.1 hp3).2.2 s' q1 e' (by simp))).2.2.2.2.2
    ·exact hno e' (by simp) q0
  ·exact ⟨pre1, e :: r, a1, aS, H, μ, e1, .inr ⟨e, r, rfl, he, hle⟩, e3, e4, hR, hA, hEs, fun s hs => hP s (by rw [e5]; simp [hs])⟩

theorem draw_any (hY : YSound P B w0 Y) (rd : Option Nat) {plan : List St} (hone : ∀ s, s ∈ plan → oneOk ops.toList la s = true) (hpairs : plan.Pairwise fun x y => pairOk ops.toList rt la x y = true) (hrt : rtOk ops.toList rt = true)
  (hcov : coverOk ops.toList.length (plan.map (·.i)) = true) {md : Region.Mode} {lm : List Nat} (hext : extOk ops.toList md [] lm = true) (hcm : coverOk ops.toList.length lm = true) (hty : ∀ i o e, la = some i → ops.toList[i]? = some o → o.op = .alloc e → ∃ te z, tyA P e = some te ∧ te.zero = some z) {Q : Exit → Act → World → Prop} {ws : World} {μs : Nat → Nat × Nat} {Zs : Nat → Nat → Prop} {Hs : AHeap}
  (hK : ∀ a' ca' μ' Z' H' w', R B w0 μ' Z' H' w' → AR E0 μ' Z' w' H'.length a' ca' → Ev μs Zs Hs ws μ' Z' H' w' → K a' H' → Q .normal ca' w') :
  ∀ (fuel : Nat) (listed : Array Bool) (pre rest : List St) (a aS : List AV) (H : AHeap) (μ : Nat → Nat × Nat) (Z : Nat → Nat → Prop) (w : World) (ca : Act), listed.toList.count false = fuel → pre ++ rest = plan → (rest = [] ∨ ∃ e r, rest = e :: r ∧ e.eff = true ∧ listed[e.i]? ≠ some true) →
   DInv P ops rt la pre rest listed a aS H → dops P B w0 Y ops.toList rest K a H → R B w0 μ Z H w → AR E0 μ Z w H.length aS ca → Ev μs Zs Hs ws μ Z H w → (∀ s, s ∈ rest → la = some s.i → listed[s.i]? = some true → Pend P B ops ws s.i aS H μ Z w ca) →
   wpAnyIn (FW rd) 0 P md ops Q fuel listed ca w := by
 intro fuel
 induction fuel with
 | zero =>
  intro listed pre rest a aS H μ Z w ca hc hpl hrest hI hd hR hA hEs hP
  have hall : ∀ i, i < ops.size → listed[i]? = some true := by
   intro i hi
   have hil : i < listed.size := by rw [hI.size]; exact hi
   cases hx : listed[i] with
   | true => rw [Array.getElem?_eq_getElem hil, hx]
   | false =>
    have : 0 < listed.toList.count false := List.count_pos_iff.2 (by rw [← hx]; simp)
    omega
  have hr0 : rest = [] := by
   rcases hrest with h | ⟨e, r, h, he, hne⟩
   ·exact h
   ·exfalso
    subst h
    obtain ⟨o, ho, _⟩ := oneOk_spec (hone e (by rw [← hpl]; simp))
    have hi : e.i < ops.size := by have := (List.getElem?_eq_some_iff.1 ho).1; simpa using this
    exact hne (hall _ hi)
  subst hr0
  have haS : aS = a := by
   apply List.ext_getElem?
   intro t
   have hlt : ∀ s, s ∈ pre → s.i < ops.size := fun s hs => by
    obtain ⟨o, ho, _⟩ := oneOk_spec (hone s (by rw [← hpl]; simp [hs]))
    have := (List.getElem?_eq_some_iff.1 ho).1; simpa using this
   have hag := hI.agree t (fun s hs hse hl => absurd (hall _ (hlt s hs)) hl) (fun s hs => by cases hs)
   rcases Nat.lt_or_ge t a.length with h | h
   ·have h' : t < aS.length := by rw [hI.len]; exact h
    simp only [List.getD, List.getElem?_eq_getElem h, List.getElem?_eq_getElem h', Option.getD_some] at hag
    rw [List.getElem?_eq_getElem h, List.getElem?_eq_getElem h', hag]
   ·rw [List.getElem?_eq_none h, List.getElem?_eq_none (by rw [hI.len]; exact h)]
  subst haS
  refine ⟨?_, hK _ ca μ Z H w hR hA hEs hd⟩
  unfold Region.ready
  rw [List.filter_eq_nil_iff]
  intro i hi
  rw [List.mem_range] at hi
  rw [Array.getD_eq_getD_getElem?, hall i hi]
  simp
 | succ fuel ih =>
  intro listed pre rest a aS H μ Z w ca hc hpl hrest hI hd hR hA hEs hP
  constructor
  ·intro hempty
   exfalso
   obtain ⟨i, hi⟩ := count_pos (l := listed.toList) (by omega)
   have hlt : i < ops.toList.length := by
    have := (List.getElem?_eq_some_iff.1 hi).1
    have h2 := hI.size
    simp at this ⊢; omega
   refine ext_ready hI.size hext (by simp) ⟨i, ?_, by simpa using hi⟩ hempty
   have := List.all_eq_true.1 hcm i (List.mem_range.2 hlt)
   simpa using this
  ·intro i hi
   obtain ⟨h1, h2, h3⟩ := ready_spec hrt hI.closed hI.size hi
   have hmem : ∃ s, s ∈ plan ∧ s.i = i := by
    have := List.all_eq_true.1 hcov i (List.mem_range.2 (by simpa using h1))
    simpa using this
   obtain ⟨s, hs, rfl⟩ := hmem
   have hs' := hs
   rw [← hpl] at hs'
   obtain ⟨o, ho, hoL, hoF⟩ := oneOk_spec (hone s hs)
   have ho2 : ops[s.i]? = some o := by simpa using ho
   have hdst : dstAt ops.toList s.i = o.dst := by simp only [dstAt, ho, Option.bind_some]
   have hpairs0 := hpairs
   rw [← hpl] at hpairs
   have hcnt := count_set h2 hc
   -- the waiting variable's temp is nobody else's
   have hdlate : ∀ s2, s2 ∈ rest → la = some s2.i → listed[s2.i]? = some true → ∀ d, dstAt ops.toList s2.i = some d → o.dst ≠ some d := by
    intro s2 hs2 hla2 hl2 d hd2 hod
    have hne : s.i ≠ s2.i := fun e => by rw [e] at h2; rw [h2] at hl2; cases hl2
    rcases pair_of hpairs0 hs (by rw [← hpl]; simp [hs2]) hne with h | h
    ·exact ((pairOk_spec h).2.2.1 d (hdst.trans hod) hd2).2.2.2 hla2
    ·exact ((pairOk_spec h).2.2.1 d hd2 (hdst.trans hod)).2.2.1 hla2
   have hlooklate : ∀ s2, s2 ∈ rest → la = some s2.i → listed[s2.i]? = some true → (∀ x y, x = s → y = s2 → pairOk ops.toList rt la x y = true) → ∀ d, dstAt ops.toList s2.i = some d → d ∉ looksAt ops.toList s.i := by
    intro s2 hs2 hla2 hl2 hpo d hd2 hlk
    have := ((pairOk_spec (hpo s s2 rfl rfl)).2.1 d hd2 hlk).2
    have := hI.closed _ hl2 _ this
    rw [h2] at this; cases this
   rcases List.mem_append.1 hs' with hin | hin
   ·-- a float that waits
    have hse : s.eff = false := by
     cases hx : s.eff with
     | false => rfl
     | true => have := hI.effs s hin hx; rw [h2] at this; cases this
    obtain ⟨hf, _, hself⟩ := hoF hse
    obtain ⟨v, q1, q2⟩ := hI.vals s hin hse (by rw [h2]; simp)
    have hlook : ∀ t, t ∈ looksAt ops.toList s.i → aS.getD t .undef = a.getD t .undef := by
     refine hI.looks (i := s.i) (x := s) ?_ (fun _ d hd' => hself d (by rw [← hdst]; exact hd')) (fun h => by rw [hse] at h; cases h) h3 (fun s2 hs2 q0 q1' => hlooklate s2 hs2 q0 q1' (fun x y ex ey => by subst ex; subst ey; exact (List.pairwise_append.1 hpairs).2.2 _ hin _ hs2))
     intro s2 hs2 hs2e hl2 hne d hd2 hlk
     rcases pair_of (List.pairwise_append.1 hpairs).1 hin hs2 (Ne.symm hne) with h | h
     ·have := ((pairOk_spec h).2.1 d hd2 hlk).1
      rw [hs2e] at this; cases this
     ·exact (pairOk_spec h).1 d hd2 hlk
    rw [← flO_congr hlook] at q1
    refine flO_run hY rd ho2 hf q1 hR hA ?_
    intro cv μ' Z' w' k1 k2 k3
    refine ih _ pre rest a (putD aS o.dst v) H μ' Z' w' _ hcnt hpl ?_ (hI.float hpairs hin hse ho2 q2 h3) hd k1 ((hA.evolve hR k3).put o.dst k2) (hEs.trans k3) ?_
    ·rcases hrest with h | ⟨e, r, h, he, hne⟩
     ·exact .inl h
     ·refine .inr ⟨e, r, h, he, fun hl => ?_⟩
      rcases set_true hl with h' | h'
      ·exact (pairOk_spec ((List.pairwise_append.1 hpairs).2.2 s hin e (by rw [h]; simp))).2.2.2.2.2 h'.symm
      ·exact hne h'
    ·intro s2 hs2 q0 q1'
     rcases set_true q1' with h' | h'
     ·exact absurd h'.symm (pairOk_spec ((List.pairwise_append.1 hpairs).2.2 s hin s2 hs2)).2.2.2.2.2
     ·exact (hP s2 hs2 q0 h').step k3 (hdlate s2 hs2 q0 h')
   ·-- one that writes
    rcases hrest with hr | ⟨e, r, hr, he, hne⟩
    ·rw [hr] at hin; cases hin
    ·subst hr
     rcases List.mem_cons.1 hin with rfl | hin
     ·have hns : ∀ s2, s2 ∈ pre → s2.i ≠ s.i := fun s2 h2' => (pairOk_spec ((List.pairwise_append.1 hpairs).2.2 s2 h2' s (by simp))).2.2.2.2.2
      have hlook : ∀ t, t ∈ looksAt ops.toList s.i → aS.getD t .undef = a.getD t .undef := by
       refine hI.looks (i := s.i) (x := s) ?_ (fun h => by rw [he] at h; cases h) (fun _ => hns) h3 (fun s2 hs2 q0 q1' => hlooklate s2 hs2 q0 q1' (fun x y ex ey => by
        subst ex; subst ey
        rcases List.mem_cons.1 hs2 with e2 | hs2
        ·rw [e2, h2] at q1'; cases q1'
        ·exact (List.pairwise_cons.1 (List.pairwise_append.1 hpairs).2.1).1 _ hs2))
       intro s2 hs2 hs2e hl2 hne d hd2 hlk
       exact (pairOk_spec ((List.pairwise_append.1 hpairs).2.2 s2 hs2 s (by simp))).1 d hd2 hlk
      obtain ⟨hl1, hl2⟩ := looks_ev ho hlook
      simp only [dops, ho] at hd
      obtain ⟨b, hb, hb1, hb2⟩ := opK_spec hd
      have cont : ∀ v cv μ' Z' H' w', R B w0 μ' Z' H' w' → VR μ' Z' w' H'.length v cv → Ev μ Z H w μ' Z' H' w' → reK P ops.toList s.re (dops P B w0 Y ops.toList r K) (putD a o.dst v) H' →
        wpAnyIn (FW rd) 0 P md ops Q fuel (listed.setIfInBounds s.i true) (ca.put o.dst cv) w' := by
       intro v cv μ' Z' H' w' k1 k2 k3 k4
       have hI' := hI.eff (H' := H') (v := v) hpairs he ho2 h3 k4.1
       have hpl' : (pre ++ [s]) ++ r = plan := by rw [← hpl, List.append_assoc]; rfl
       obtain ⟨pre', rest', a', aS', H2, μ2, e1, e2, e3, e4, e5, e6, e7, e8⟩ := settle (rest := r) (pre := pre ++ [s]) (by rw [List.append_assoc]; exact hpairs) (fun s' hs'' => hone s' (by rw [← hpl']; exact hs'')) hI' k4.2 k1 ((hA.evolve hR k3).put o.dst k2) (hEs.trans k3) (fun s2 hs2 q0 q1' => by
        rcases set_true q1' with h' | h'
        ·exact absurd h'.symm (pairOk_spec ((List.pairwise_cons.1 (List.pairwise_append.1 hpairs).2.1).1 s2 hs2)).2.2.2.2.2
        ·exact (hP s2 (by simp [hs2]) q0 h').step k3 (hdlate s2 (by simp [hs2]) q0 h'))
       exact ih _ pre' rest' a' aS' H2 μ2 Z' w' _ hcnt (e1.trans hpl') e2 e3 e4 e5 e6 e7 e8
      unfold wpOpIn
      rw [ho2]
      simp only
      have hw := wanted_of (ops := ops) (g := o.guard) rfl (hl2.trans hb) hA.tmps
      rw [hw]
      cases b with
      | true =>
       rw [if_pos rfl]
       have hop := aop_congr (a := a) (a' := aS) (fun x hx => (hl1 x hx).symm) (eop_sound (hb1 rfl))
       refine lands_wp (aop_noDefer hop) (aop_lands rd hY hop hR hA.ev) ?_
       intro v cv μ' Z' H' w' k1 k2 k3 k4
       exact cont v cv μ' Z' H' w' k1 k2 k3 k4
      | false =>
       rw [if_neg (by simp)]
       exact ⟨fun _ _ => trivial, cont (.tup []) undef μ Z H w hR vrSkip (Ev.refl μ Z H w) (hb2 rfl)⟩
     ·have hps := (List.pairwise_append.1 hpairs).2.1
      have hes := (List.pairwise_cons.1 hps).1 s hin
      rcases (pairOk_spec hes).2.2.2.1 he with h | ⟨hla, hse, _⟩
      ·exfalso
       exact hne (h3 _ h)
      ·-- the one that may be early
       obtain ⟨d, ety, a1, a2, a3⟩ := isAlloc_spec (hoL hla).2
       obtain ⟨te, z, b1, b2⟩ := hty _ _ _ hla ho a2
       obtain ⟨inf, zv, k1, k2, k3, k4⟩ := zero_some (w := w) b1 b2
       have hrun : (execOp ca.eval o).run P w = .ok (.value (.pointer (some ⟨w.heap.size, 0, none⟩))) (w.alloc (.cells zv.cells ety)) := by
        simp [execOp, a2, Instr.alloc, k4, newVar, newRow]
       obtain ⟨r1, r2⟩ := hR.allocFree (.cells zv.cells ety)
       have hlt : s.i < listed.size := by rw [hI.size]; exact h1
       have hse' : e.i ≠ s.i := (pairOk_spec hes).2.2.2.2.2
       have hpre : ∀ s', s' ∈ pre → s'.i ≠ s.i := fun s' h' => (pairOk_spec ((List.pairwise_append.1 hpairs).2.2 s' h' s (by simp [hin]))).2.2.2.2.2
       have hI2 : DInv P ops rt la pre (e :: r) (listed.setIfInBounds s.i true) a (putD aS o.dst .undef) H := by
        refine ⟨by simp [hI.size], fun i hi => ?_, fun s' hs' hse => set_true' (hI.effs s' hs' hse), fun i hi j hj => ?_, by rw [putD_len]; exact hI.len, fun t ht hl2 => ?_, fun s' hs' hse hl => hI.vals s' hs' hse (fun hc => hl (set_true' hc))⟩
        ·rcases set_true hi with rfl | hi
         ·exact .inr ⟨hla, s, by simp [hin], rfl⟩
         ·exact hI.onlyPre i hi
        ·rcases set_true hi with rfl | hi
         ·exact set_true' (h3 j hj)
         ·exact set_true' (hI.closed i hi j hj)
        ·have hd' : o.dst ≠ some t := by
          have := hl2 s (by simp [hin]) hla (set_self hlt)
          rwa [hdst] at this
         rw [putD_ne hd']
         refine hI.agree t (fun s' hs' hse hl => ht s' hs' hse (fun h => ?_)) (fun s' hs' q0 q1 => hl2 s' hs' q0 (set_true' q1))
         rcases set_true h with h | h
         ·exact hpre s' hs' h
         ·exact hl h
       have hgo := ih (listed.setIfInBounds s.i true) pre (e :: r) a (putD aS o.dst .undef) H μ Z (w.alloc (.cells zv.cells ety)) (ca.put o.dst (.pointer (some ⟨w.heap.size, 0, none⟩))) hcnt hpl (.inr ⟨e, r, rfl, he, fun hl => by
         rcases set_true hl with h | h
         ·exact hse' h
         ·exact hne h⟩) hI2 hd r1 ((hA.evolve hR r2).put o.dst (.undef _)) (hEs.trans r2) (fun s2 hs2 q0 _ => by
         have e2 : s2.i = s.i := by rw [hla] at q0; exact (Option.some.inj q0).symm
         rw [e2]
         refine ⟨o, d, ety, inf, zv, w.heap.size, ho2, a1, a2, a3, k1, k2, fun hl => ?_, hEs.size, by simp, hR.hB, heap_alloc_new w _, fun id ob hid ha hc => ?_, fun k hk => ?_⟩
         ·rw [a1] at hl ⊢
          simp only [Act.put, Array.size_setIfInBounds] at hl
          simp [Act.put, hl]
         ·have := hR.lt hid ha; omega
         ·have := hR.zlt _ _ hk; omega)
       unfold wpOpIn
       rw [ho2]
       simp only
       have hw : Region.wanted o (yielded ops ca.tmps) = true := by unfold Region.wanted; rw [a3]
       rw [hw, if_pos rfl]
       refine ⟨fun _ _ => trivial, ?_⟩
       have hsem : o.semAt (FW rd).round ca.eval = execOp ca.eval o := by
        unfold Oper.semAt
        split
        ·rename_i ho'; rw [a2] at ho'; cases ho'
        ·rfl
       rw [hsem, hrun]
       exact hgo

/-- A REGION THAT DRAWS ITS ORDER. -/
theorem AWP.drawL {id : Nat} {Q : Exit → List AV → AHeap → Prop} (hY : YSound P B w0 Y) (la : Option Nat) (rt : List (List Nat)) (plan : List St) (lt lg : List Nat) (hok : planOk ops.toList rt la plan lt lg = true) (hty : ∀ i o e, la = some i → ops.toList[i]? = some o → o.op = .alloc e → ∃ te z, tyA P e = some te ∧ te.zero = some z) (h : dops P B w0 Y ops.toList plan (Q .normal) a H) : AWP P B w0 rd (.region id ops true) Q a H := by
 intro E0 μ Z w ca h1 h2 h3
 simp only [planOk, Bool.and_eq_true] at hok
 obtain ⟨⟨⟨⟨⟨⟨o1, o2⟩, o3⟩, o4⟩, o5, o6⟩, o7, o8⟩, o9⟩ := hok
 have hone : ∀ s, s ∈ plan → oneOk ops.toList la s = true := fun s hs => List.all_eq_true.1 o1 s hs
 have hpairs := pairsOk_spec o2
 refine wpIn_region_draw fun t => ?_
 have hR : R B w0 μ Z H { w with drawn := w.drawn + 1 } := h1.drew
 have hE : Ev μ Z H w μ Z H { w with drawn := w.drawn + 1 } := ⟨Nat.le_refl _, fun _ _ => rfl, fun _ _ h => h, fun _ _ _ => rfl, fun _ _ => rfl, Nat.le_refl _, fun _ _ _ => rfl, fun id o h ha => .inr ⟨id, o, h, ha, rfl⟩, fun _ _ h => .inl h⟩
 have hA := h2.evolve h1 hE
 have hI0 : DInv P ops rt la [] plan (Array.replicate ops.size false) a a H := by
  refine ⟨by simp, fun i hi => ?_, fun s hs => (by cases hs), fun i hi => ?_, rfl, fun _ _ _ => rfl, fun s hs => (by cases hs)⟩
  ·rw [Array.getElem?_replicate] at hi; split at hi <;> simp at hi
  ·rw [Array.getElem?_replicate] at hi; split at hi <;> simp at hi
 have hno : ∀ i : Nat, (Array.replicate ops.size false)[i]? ≠ some true := by
  intro i hi
  rw [Array.getElem?_replicate] at hi; split at hi <;> simp at hi
 obtain ⟨pre', rest', a', aS', H', μ', e1, e2, e3, e4, e5, e6, e7, e8⟩ := settle (ws := { w with drawn := w.drawn + 1 }) (μs := μ) (Zs := Z) (Hs := H) (rest := plan) (pre := []) (by simpa using hpairs) (fun s hs => hone s (by simpa using hs)) hI0 h hR hA (Ev.refl _ _ _ _) (fun s _ _ hl => absurd hl (hno s.i))
 have go : ∀ md lm, extOk ops.toList md [] lm = true → coverOk ops.toList.length lm = true → ∀ t, wpOpsIn (FW (rd.map fun l => (μ l).1)) 0 P ops (PQ B w0 E0 μ Z H w Q) (Region.linearise md ops t) ca { w with drawn := w.drawn + 1 } := by
  intro md lm hx hc t
  refine wpAnyIn_sound ops.size t _ ca _ ?_
  refine draw_any hY _ hone hpairs o3 o4 hx hc hty ?_ ops.size _ pre' rest' a' aS' H' μ' Z _ ca (by simp) (by simpa using e1) e2 e3 e4 e5 e6 e7 e8
  intro a'' ca'' μ'' Z'' H'' w'' k1 k2 k3 k4
  exact ⟨μ'', Z'', a'', H'', k1, k2, hE.trans k3, k4⟩
 unfold Region.schedule
 split
 ·exact go .any lt o9 o6 t
 ·split
  ·exact go .text lt o5 o6 _
  ·exact go .gc lg o7 o8 _
theorem AWP.draw {id : Nat} {Q : Exit → List AV → AHeap → Prop} (hY : YSound P B w0 Y) (rt : List (List Nat)) (plan : List St) (lt lg : List Nat) (hok : planOk ops.toList rt none plan lt lg = true) (h : dops P B w0 Y ops.toList plan (Q .normal) a H) : AWP P B w0 rd (.region id ops true) Q a H :=
 AWP.drawL hY none rt plan lt lg hok (fun _ _ _ h => by cases h) h
end

section
variable (P : Program) (B : Nat) (w0 : World) (Y : Hand) (ops : List Oper) (rest : List St) (K : List AV → AHeap → Prop) (a : List AV) (H : AHeap) (op : Op) (dst : Option Tmp) (ty : TypeId) (pos : String) (af : Array Edge) (re : List Nat)
theorem opK_guard (j : Nat) (want : Bool) : opK P B w0 Y ops ⟨dst, op, ty, pos, af, some (j, want)⟩ K a H = guardV (gval ops a j) want (opT P B w0 Y K op dst) (opF K dst) a H := Eq.trans rfl rfl
theorem opC_eq (v : AV) : opC K dst a v H = K (putD a dst v) H := Eq.trans rfl rfl
theorem opF_eq : opF K dst a H = K (putD a dst (.tup [])) H := Eq.trans rfl rfl
theorem reK_eq : reK P ops re K a H = (reAll P ops a H re ∧ K a H) := Eq.trans rfl rfl
theorem dops_nil : dops P B w0 Y ops [] K a H = K a H := Eq.trans rfl rfl
def dopsO (o : Option Oper) (P : Program) (B : Nat) (w0 : World) (Y : Hand) (ops : List Oper) (K : List AV → AHeap → Prop) (a : List AV) (H : AHeap) : Prop := match o with
 | some o => opK P B w0 Y ops o K a H
 | none => False
theorem dops_cons (s : St) : dops P B w0 Y ops (s :: rest) K a H = dopsO ops[s.i]? P B w0 Y ops (reK P ops s.re (dops P B w0 Y ops rest K)) a H := by
 simp only [dops, dopsO]
theorem dopsO_some (o : Oper) : dopsO (some o) P B w0 Y ops K a H = opK P B w0 Y ops o K a H := Eq.trans rfl rfl
end
end Go.Av
end
