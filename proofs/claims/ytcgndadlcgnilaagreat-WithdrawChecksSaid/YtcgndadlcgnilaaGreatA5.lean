/- the layer over the model, part 5 -/
import Derived.Laws.BytesArg
import Derived.Test.YtcgndadlcgnilaaGreatA4
set_option autoImplicit false
set_option linter.unusedSimpArgs false
set_option linter.unusedVariables false
set_option linter.unnecessarySimpa false
section
set_option linter.unusedSimpArgs false
set_option linter.unusedVariables false
namespace Go.Av
open Go.RowKit

theorem flat_cons (x : AV) (l : List AV) : flat (x :: l) = x.cells ++ flat l := by simp [flat]
theorem flat_append (l l' : List AV) : flat (l ++ l') = flat l ++ flat l' := by simp [flat]
theorem flat_length {sz : Nat} : ∀ {l : List AV}, (∀ e, e ∈ l → e.cells.length = sz) → (flat l).length = l.length * sz
 | [], _ => by simp [flat]
 | x :: l, h => by
  rw [flat_cons, List.length_append, h x (by simp), flat_length (fun e he => h e (by simp [he])), List.length_cons, Nat.add_mul]; omega
theorem flat_take {sz : Nat} : ∀ {l : List AV} (k : Nat), (∀ e, e ∈ l → e.cells.length = sz) → flat (l.take k) = (flat l).take (k * sz)
 | [], k, _ => by simp [flat]
 | x :: l, 0, _ => by simp [flat]
 | x :: l, k + 1, h => by
  have hx := h x (by simp)
  rw [List.take_succ_cons, flat_cons, flat_cons, flat_take k (fun e he => h e (by simp [he])), Nat.add_mul, Nat.one_mul, Nat.add_comm, ← hx]
  rw [List.take_append]
  simp
  rw [List.take_of_length_le (Nat.le_add_right _ _)]
theorem flat_drop {sz : Nat} : ∀ {l : List AV} (k : Nat), (∀ e, e ∈ l → e.cells.length = sz) → flat (l.drop k) = (flat l).drop (k * sz)
 | [], k, _ => by simp [flat]
 | x :: l, 0, _ => by simp [flat]
 | x :: l, k + 1, h => by
  have hx := h x (by simp)
  rw [List.drop_succ_cons, flat_cons, flat_drop k (fun e he => h e (by simp [he])), Nat.add_mul, Nat.one_mul, Nat.add_comm, ← hx, List.drop_append]
  simp
theorem flat_get {sz : Nat} {l : List AV} (h : ∀ e, e ∈ l → e.cells.length = sz) {k j : Nat} (hk : k < l.length) (hj : j < sz) : (flat l)[k * sz + j]? = (l.getD k .undef).cells[j]? := by
 have h1 : flat l = flat (l.take k) ++ flat (l.drop k) := by rw [← flat_append, List.take_append_drop]
 have h2 : (flat (l.take k)).length = k * sz := by
  rw [flat_length (sz := sz) (fun e he => h e (List.mem_of_mem_take he)), List.length_take, Nat.min_eq_left (by omega)]
 rw [h1, List.getElem?_append_right (by omega), h2, Nat.add_sub_cancel_left]
 have h3 : l.drop k = l[k] :: l.drop (k + 1) := List.drop_eq_getElem_cons hk
 rw [h3, flat_cons, List.getElem?_append_left (by rw [h _ (List.getElem_mem hk)]; exact hj)]
 simp [List.getD, hk]

/-- A cut of a slice. -/
def cutTail (l h len : Nat) (mx : Option Nat) (tl : Tail) : Tail :=
 if l = h then (match mx with | some m => if m = h then .full else .none | none => if h = len then (match tl with | .full => .full | _ => .none) else .none)
 else match mx with
  | some m => if m = h then .full else .none
  | none => if h = len then tl else .none

def bnd (d : Nat) : Option AV → Option Nat
 | none => some d
 | some (.int _ n) => if 0 ≤ n then some n.toNat else none
 | some _ => none

def sliceA (P : Program) (t : TypeId) (x : AV) (lo hi mx : Option AV) : Option AV :=
 match tyA P t with
 | some ti => match x, ti.kind with
  | .str s, .str => match bnd 0 lo, bnd s.length hi with
   | some l, some h => if l ≤ h ∧ h ≤ s.length ∧ mx.isNone = true then some (.str ((s.take h).drop l)) else none
   | _, _ => none
  | .dl sz es tl, .slice e => match tyA P e with
   | some te => match bnd 0 lo, bnd es.length hi with
    | some l, some h => match mx with
     | none => if l ≤ h ∧ h ≤ es.length ∧ (sz = te.size ∨ es.length = 0) then some (.dl sz ((es.take h).drop l) (cutTail l h es.length none tl)) else none
     | some m' => match bnd 0 (some m') with
      | some m => if l ≤ h ∧ h ≤ m ∧ m ≤ es.length ∧ hi.isSome = true ∧ (sz = te.size ∨ es.length = 0) then some (.dl sz ((es.take h).drop l) (cutTail l h es.length (some m) tl)) else none
      | none => none
    | _, _ => none
   | none => none
  | .sl sz id off len, .slice e => match tyA P e with
   | some te => match bnd 0 lo, bnd len hi with
    | some l, some h => if l ≤ h ∧ h ≤ len ∧ sz = te.size ∧ mx.isNone = true then (if l = h ∧ l ≠ 0 then some (.dl sz [] .none) else some (.sl sz id (off + l * sz) (h - l))) else none
    | _, _ => none
   | none => none
  | _, _ => none
 | none => none

def fillA (place : Nat → Option (Nat × Nat)) (cells : List AV) : List (Nat × AV) → Option (List AV)
 | [] => some cells
 | (i, v) :: rest =>
  match place i, v with
  | some _, .undef => none
  | some (off, size), v => if v.cells.length = size ∧ off + size ≤ cells.length then fillA place (cells.take off ++ v.cells ++ cells.drop (off + size)) rest else none
  | none, _ => none

/-- Where the parts of a type lie. -/
def placeA (P : Program) : TK → Nat → Option (Nat × Nat)
 | .struct fs, i => match fs[i]? with
  | some (off, ft) => (tyA P ft).map fun j => (off, j.size)
  | none => none
 | .array _ e, i => (tyA P e).map fun j => (i * j.size, j.size)
 | _, _ => none

def allTy (P : Program) : TK → Bool
 | .struct fs => fs.all fun f => (tyA P f.2).isSome
 | .array _ e => (tyA P e).isSome
 | _ => false

def buildA (P : Program) (t : TypeId) (parts : List (Nat × AV)) : Option AV :=
 match tyA P t with
 | some ti => match ti.zero with
  | some (.agg z) => if allTy P ti.kind then (fillA (placeA P ti.kind) z parts).map .agg else none
  | _ => none
 | none => none

def lenA (P : Program) (H : AHeap) (t : TypeId) (x : AV) : Option AV :=
 match tyA P t with
 | some ti => match ti.kind, x with
  | .str, .str s => some (.int .i64 s.length)
  | .slice _, .dl _ es _ => some (.int .i64 es.length)
  | .slice _, .sl _ _ _ len => some (.int .i64 len)
  | .map _ _, .map none => some (.int .i64 0)
  | .map _ _, .map (some id) => match H[id]? with
   | some (.map es) => some (.int .i64 es.length)
   | _ => none
  | .array n _, _ => some (.int .i64 n)
  | _, _ => none
 | none => none

def minA : AV → AV → Option AV
 | .int k x, .int k' y => if k = k' then some (.int k (if y < x then y else x)) else none
 | _, _ => none
def maxA : AV → AV → Option AV
 | .int k x, .int k' y => if k = k' then some (.int k (if y > x then y else x)) else none
 | _, _ => none

def capA (P : Program) (t : TypeId) (x : AV) : Option AV :=
 match tyA P t with
 | some ti => match ti.kind, x with
  | .slice _, .dl _ es .full => some (.int .i64 es.length)
  | _, _ => none
 | none => none

def biA (P : Program) (H : AHeap) (a : List AV) (c : Call) : Option AV :=
 match c.callee, c.args.toList, c.argTypes.toList with
 | .builtin .len, [x], [t] => lenA P H t (ev a x)
 | .builtin .cap, [x], [t] => capA P t (ev a x)
 | .builtin .min, [x, y], _ => minA (ev a x) (ev a y)
 | .builtin .max, [x, y], _ => maxA (ev a x) (ev a y)
 | _, _, _ => none

/-- What an operation that writes nothing comes to. -/
def pureA (P : Program) (H : AHeap) (a : List AV) : Op → Option AV
 | .move x => some (ev a x)
 | .assign x => some (ev a x)
 | .pick c x y => pickA (ev a c) (ev a x) (ev a y)
 | .binOp op t x y _ => binA P op t (ev a x) (ev a y)
 | .unOp op _ x => unA op (ev a x)
 | .convert s d x => convA P s d (ev a x)
 | .makeFunc (.func k) first cap => some (.fn (.func k) (first.toList.map (ev a)) (cap.toList.map (ev a)))
 | .fieldAddr s x f => fieldAddrA P s (ev a x) f
 | .field t x f => fieldA P t (ev a x) f
 | .indexAddr t x i => indexAddrA P t (ev a x) (ev a i)
 | .index t x i => indexA P t (ev a x) (ev a i)
 | .slice t x lo hi mx => sliceA P t (ev a x) (lo.map (ev a)) (hi.map (ev a)) (mx.map (ev a))
 | .extract x i => extractA (ev a x) i
 | .nilCheck x => nilCheckA (ev a x)
 | .build t parts => buildA P t (parts.toList.map fun p => (p.1, ev a p.2))
 | .load t x => (cellsAt H (ev a x)).bind (loadA P t)
 | .call c => biA P H a c
 | _ => none
end Go.Av
end
