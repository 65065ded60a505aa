/- PoolCopies: for all scripts a copy of a pool goes on like the pool, and neither changes the other; no condition. -/
import Derived.CallsIn
import Derived.RangeFuncLeaves
import Derived.Below
import Derived.Laws.World
import Derived.Laws.Rows
import Derived.Laws.Entries
import Derived.Laws.Cells
import Derived.Laws.Append
import Derived.Laws.CopyRow
import Derived.Laws.StructEq
import Derived.Laws.Strings
import Derived.Laws.Strings2
import Derived.Laws.Concat
import Derived.Laws.BytesArg
set_option autoImplicit false
set_option linter.unusedSimpArgs false
set_option linter.unusedVariables false
set_option linter.unnecessarySimpa false
section
namespace Go.Av
open Go.RowKit

/-- What is known of a frozen slice's end: nothing · its capacity is its length · the token that owns the places behind it. -/
inductive Tail where
 | none
 | full
 | tok (t : Nat)
 deriving DecidableEq, Inhabited

/-- Abstract values: data that nobody writes any more are held in the value itself. -/
inductive AV where
 | undef
 | bool (b : Bool)
 | int (k : IntKind) (n : Int)
 | str (s : List UInt8)
 | nilp
 | ptr (id off : Nat)
 | dp (cells : List AV) (off : Nat)
 | dl (sz : Nat) (elems : List AV) (tl : Tail)
 | sl (sz id off len : Nat)
 | agg (cells : List AV)
 | tup (vs : List AV)
 | fn (f : Fn) (first captured : List AV)
 | nilfn
 | map (id : Option Nat)
 | nilif
 | iface (t : TypeId) (v : AV)
 deriving Inhabited

def AV.cells : AV → List AV
 | .agg cs => cs
 | v => [v]

def flat (l : List AV) : List AV := l.flatMap AV.cells

/-- The cells l lie at c, from o on, and nobody writes them: the data part. -/
def TailR (μ : Nat → Nat × Nat) (w : World) (n c o sz len cap : Nat) : Tail → Prop
 | .none => True
 | .full => cap = len
 | .tok t => t < n ∧ μ t = (c, o + len * sz) ∧ 0 < sz ∧ ∃ e N, w.shape? c = some (e, N) ∧ o + cap * sz ≤ N

section
variable (μ : Nat → Nat × Nat) (Z : Nat → Nat → Prop) (w : World) (n : Nat)

/-- An abstract value stands for a value of the model's. -/
inductive VR : AV → Value → Prop
 | undef (v : Value) : VR .undef v
 | bool (b : Bool) : VR (.bool b) (.bool b)
 | int (k : IntKind) (x : Int) : VR (.int k x) (.int k x)
 | str (s : List UInt8) : VR (.str s) (.string ⟨s.toArray⟩)
 | nilp : VR .nilp (.pointer none)
 | ptr (id off : Nat) (h : id < n) : VR (.ptr id off) (.pointer (some ⟨(μ id).1, (μ id).2 + off, none⟩))
 | dp (cells : List AV) (off c o : Nat) (f : Nat → Value)
   (h1 : ∀ j v, cells[j]? = some v → w.cell? ⟨c, o + j, none⟩ = some (f j)) (h2 : ∀ j, j < cells.length → Z c (o + j))
   (h3 : ∀ j v, cells[j]? = some v → VR v (f j)) (h5 : ∀ j, j < cells.length → (f j).oneCell' = true) : VR (.dp cells off) (.pointer (some ⟨c, o + off, none⟩))
 | dl0 (sz : Nat) (tl : Tail) (a : Option Addr) (cap : Nat) (h : tl = .full → cap = 0) (ht : ∀ t, tl ≠ .tok t) : VR (.dl sz [] tl) (.slice a 0 cap)
 | dl (sz : Nat) (elems : List AV) (tl : Tail) (c o cap : Nat) (f : Nat → Value)
   (hs : ∀ e, e ∈ elems → e.cells.length = sz) (hc : elems.length ≤ cap)
   (h1 : ∀ j v, (flat elems)[j]? = some v → w.cell? ⟨c, o + j, none⟩ = some (f j)) (h2 : ∀ j, j < (flat elems).length → Z c (o + j))
   (h3 : ∀ j v, (flat elems)[j]? = some v → VR v (f j)) (h5 : ∀ j, j < (flat elems).length → (f j).oneCell' = true)
   (ht : TailR μ w n c o sz elems.length cap tl) : VR (.dl sz elems tl) (.slice (some ⟨c, o, none⟩) elems.length cap)
 | sl (sz id off len cap : Nat) (h : id < n) (hc : len ≤ cap) (hsz : 0 < sz) (e N : Nat) (hN : w.shape? (μ id).1 = some (e, N)) (hcap : (μ id).2 + off + cap * sz ≤ N) :
   VR (.sl sz id off len) (.slice (some ⟨(μ id).1, (μ id).2 + off, none⟩) len cap)
 | agg (cs : List AV) (vs : Array Value) (hl : cs.length = vs.size) (f : Nat → Value)
   (h1 : ∀ j v, cs[j]? = some v → vs[j]? = some (f j)) (h2 : ∀ j v, cs[j]? = some v → VR v (f j)) : VR (.agg cs) (.agg vs)
 | tup (cs : List AV) (vs : Array Value) (hl : cs.length = vs.size) (f : Nat → Value)
   (h1 : ∀ j v, cs[j]? = some v → vs[j]? = some (f j)) (h2 : ∀ j v, cs[j]? = some v → VR v (f j)) : VR (.tup cs) (.tuple vs)
 | fn (k : Nat) (c1 c2 : List AV) (v1 v2 : Array Value) (hl1 : c1.length = v1.size) (hl2 : c2.length = v2.size) (f g : Nat → Value)
   (h1 : ∀ j v, c1[j]? = some v → v1[j]? = some (f j)) (h2 : ∀ j v, c1[j]? = some v → VR v (f j))
   (h3 : ∀ j v, c2[j]? = some v → v2[j]? = some (g j)) (h4 : ∀ j v, c2[j]? = some v → VR v (g j)) : VR (.fn (.func k) c1 c2) (.func (.func k) v1 v2)
 | yield (l : Nat) (h : l < n) : VR (.fn (.yield l) [] []) (.func (.yield (μ l).1) #[] #[])
 | nilfn : VR .nilfn .nilFunc
 | nilm : VR (.map none) (.map none)
 | map (id : Nat) (h : id < n) : VR (.map (some id)) (.map (some (μ id).1))
 | nilif : VR .nilif .nilIface
 | iface (t : TypeId) (v : AV) (v' : Value) (h : VR v v') : VR (.iface t v) (.iface t v')

/-- Lists of values, place by place. -/
def VRs (l : List AV) (vs : Array Value) : Prop := l.length = vs.size ∧ ∀ (j : Nat) (v : AV), l[j]? = some v → ∃ v', vs[j]? = some v' ∧ VR μ Z w n v v'
end

inductive AObj where
 | dead
 | cells (cs : List AV)
 | tok
 | map (es : List (Nat × AV × AV)) (clock : Nat)
 | iter (m since : Nat) (seen : List Nat) (last : Nat)
 | loop (env : List AV) (ps : Array Tmp) (assign body : Code) (pending : Option Code) (ready : Bool)
 deriving Inhabited

def AObj.alive : AObj → Bool
 | .dead => false
 | _ => true

abbrev AHeap := List AObj

/-- What an object's block holds. -/
def OR (B : Nat) (μ : Nat → Nat × Nat) (Z : Nat → Nat → Prop) (w : World) (n id : Nat) : AObj → Prop
 | .dead => True
 | .cells cs => B ≤ (μ id).1 ∧ (∀ o, ¬ Z (μ id).1 o) ∧ ∃ ccs e fr, w.heap[(μ id).1]? = some (.cells ccs e fr) ∧ (∀ o, o < ccs.size → w.frozen? ⟨(μ id).1, o, none⟩ = false) ∧
   (μ id).2 + cs.length ≤ ccs.size ∧ ∀ j v, cs[j]? = some v → ∃ v', ccs[(μ id).2 + j]? = some v' ∧ v'.oneCell' = true ∧ VR μ Z w n v v'
 | .tok => B ≤ (μ id).1 ∧ (∀ o, Z (μ id).1 o → o < (μ id).2) ∧ ∃ ccs e fr, w.heap[(μ id).1]? = some (.cells ccs e fr) ∧ (∀ o, o < ccs.size → w.frozen? ⟨(μ id).1, o, none⟩ = false)
 | .map es clock => B ≤ (μ id).1 ∧ ∃ mes, w.heap[(μ id).1]? = some (.map mes clock) ∧ es.length = mes.size ∧
   ∀ (j : Nat) (b : Nat) (k v : AV), es[j]? = some (b, k, v) → ∃ e : MapEntry, mes[j]? = some e ∧ e.born = b ∧ VR μ Z w n k e.key ∧ VR μ Z w n v e.val
 | .iter m since seen last => B ≤ (μ id).1 ∧ (μ id).2 = 0 ∧ m < n ∧ w.heap[(μ id).1]? = some (.mapIter (some (μ m).1) since seen.toArray last)
 | .loop env ps assign body pending ready => B ≤ (μ id).1 ∧ ∃ r : Loop, w.heap[(μ id).1]? = some (.loop r) ∧ r.state = (if ready then .ready else if pending.isSome then .done else .busy) ∧ r.pending = pending ∧
   r.params = ps ∧ r.assign = assign ∧ r.body = body ∧ VRs μ Z w n env r.tmps

structure R (B : Nat) (w0 : World) (μ : Nat → Nat × Nat) (Z : Nat → Nat → Prop) (H : AHeap) (w : World) : Prop where
 below : Below B w0 w
 hB : B ≤ w.heap.size
 zlt : ∀ c o, Z c o → c < w.heap.size
 obj : ∀ id o, H[id]? = some o → OR B μ Z w H.length id o
 inj : ∀ i j oi oj, H[i]? = some oi → H[j]? = some oj → oi.alive = true → oj.alive = true → (μ i).1 = (μ j).1 → i = j

/-- How a state may go on. -/
structure Ev (μ : Nat → Nat × Nat) (Z : Nat → Nat → Prop) (H : AHeap) (w : World) (μ' : Nat → Nat × Nat) (Z' : Nat → Nat → Prop) (H' : AHeap) (w' : World) : Prop where
 len : H.length ≤ H'.length
 mu : ∀ i, i < H.length → μ' i = μ i
 z : ∀ c o, Z c o → Z' c o
 zcell : ∀ c o, Z c o → w'.cell? ⟨c, o, none⟩ = w.cell? ⟨c, o, none⟩
 shape : ∀ c, c < w.heap.size → w'.shape? c = w.shape? c
 size : w.heap.size ≤ w'.heap.size
 frame : ∀ c, c < w.heap.size → (∀ id o, H[id]? = some o → o.alive = true → (μ id).1 ≠ c) → w'.heap[c]? = w.heap[c]?
 own : ∀ id o, H'[id]? = some o → o.alive = true → w.heap.size ≤ (μ' id).1 ∨ ∃ i oi, H[i]? = some oi ∧ oi.alive = true ∧ (μ i).1 = (μ' id).1
 znew : ∀ c o, Z' c o → Z c o ∨ w.heap.size ≤ c ∨ ∃ i oi, H[i]? = some oi ∧ oi.alive = true ∧ (μ i).1 = c

theorem Ev.refl (μ : Nat → Nat × Nat) (Z : Nat → Nat → Prop) (H : AHeap) (w : World) : Ev μ Z H w μ Z H w :=
 ⟨Nat.le_refl _, fun _ _ => rfl, fun _ _ h => h, fun _ _ _ => rfl, fun _ _ => rfl, Nat.le_refl _, fun _ _ _ => rfl, fun id o h ha => .inr ⟨id, o, h, ha, rfl⟩, fun _ _ h => .inl h⟩

section
variable {μ μ' μ'' : Nat → Nat × Nat} {Z Z' Z'' : Nat → Nat → Prop} {H H' H'' : AHeap} {w w' w'' : World} {B : Nat} {w0 : World} {n n' : Nat}

theorem shape_lt {c e N : Nat} (h : w.shape? c = some (e, N)) : c < w.heap.size := by
 unfold World.shape? at h
 rcases Nat.lt_or_ge c w.heap.size with hlt | hge
 ·exact hlt
 ·rw [Array.getElem?_eq_none hge] at h; cases h

theorem TailR.mono {c o sz len cap : Nat} {tl : Tail} (h : TailR μ w n c o sz len cap tl) (hn : n ≤ n') (hm : ∀ i, i < n → μ' i = μ i)
  (hs : ∀ c, c < w.heap.size → w'.shape? c = w.shape? c) : TailR μ' w' n' c o sz len cap tl := by
 cases tl with
 | none => trivial
 | full => exact h
 | tok t =>
  obtain ⟨h1, h2, h3, e, N, h4, h5⟩ := h
  exact ⟨Nat.lt_of_lt_of_le h1 hn, (hm t h1).trans h2, h3, e, N, (hs c (shape_lt h4)).trans h4, h5⟩

theorem VR.mono {v : AV} {cv : Value} (h : VR μ Z w n v cv) (hn : n ≤ n') (hm : ∀ i, i < n → μ' i = μ i) (hz : ∀ c o, Z c o → Z' c o)
  (hc : ∀ c o, Z c o → w'.cell? ⟨c, o, none⟩ = w.cell? ⟨c, o, none⟩) (hs : ∀ c, c < w.heap.size → w'.shape? c = w.shape? c) : VR μ' Z' w' n' v cv := by
 induction h with
 | undef v => exact .undef v
 | bool b => exact .bool b
 | int k x => exact .int k x
 | str s => exact .str s
 | nilp => exact .nilp
 | ptr id off h => rw [← hm id h]; exact .ptr id off (Nat.lt_of_lt_of_le h hn)
 | dp cells off c o f h1 h2 _ h5 ih =>
  exact .dp cells off c o f (fun j v hj => (hc _ _ (h2 j (List.getElem?_eq_some_iff.1 hj).1)).trans (h1 j v hj)) (fun j hj => hz _ _ (h2 j hj)) ih h5
 | dl0 sz tl a cap h ht => exact .dl0 sz tl a cap h ht
 | dl sz elems tl c o cap f hs' hcap h1 h2 _ h5 ht ih =>
  exact .dl sz elems tl c o cap f hs' hcap (fun j v hj => (hc _ _ (h2 j (List.getElem?_eq_some_iff.1 hj).1)).trans (h1 j v hj)) (fun j hj => hz _ _ (h2 j hj)) ih h5 (ht.mono hn hm hs)
 | sl sz id off len cap h hl hsz e N hN hcap =>
  rw [← hm id h]
  exact .sl sz id off len cap (Nat.lt_of_lt_of_le h hn) hl hsz e N (by rw [hm id h, hs _ (shape_lt hN)]; exact hN) (by rw [hm id h]; exact hcap)
 | agg cs vs hl f h1 _ ih => exact .agg cs vs hl f h1 ih
 | tup cs vs hl f h1 _ ih => exact .tup cs vs hl f h1 ih
 | fn k c1 c2 v1 v2 hl1 hl2 f g h1 _ h3 _ ih1 ih2 => exact .fn k c1 c2 v1 v2 hl1 hl2 f g h1 ih1 h3 ih2
 | yield l h => rw [← hm l h]; exact .yield l (Nat.lt_of_lt_of_le h hn)
 | nilfn => exact .nilfn
 | nilm => exact .nilm
 | map id h => rw [← hm id h]; exact .map id (Nat.lt_of_lt_of_le h hn)
 | nilif => exact .nilif
 | iface t v v' _ ih => exact .iface t v v' ih

theorem VR.ev {v : AV} {cv : Value} (h : VR μ Z w H.length v cv) (e : Ev μ Z H w μ' Z' H' w') : VR μ' Z' w' H'.length v cv := h.mono e.len e.mu e.z e.zcell e.shape
theorem VRs.mono {l : List AV} {vs : Array Value} (h : VRs μ Z w n l vs) (hn : n ≤ n') (hm : ∀ i, i < n → μ' i = μ i) (hz : ∀ c o, Z c o → Z' c o)
  (hc : ∀ c o, Z c o → w'.cell? ⟨c, o, none⟩ = w.cell? ⟨c, o, none⟩) (hs : ∀ c, c < w.heap.size → w'.shape? c = w.shape? c) : VRs μ' Z' w' n' l vs :=
 ⟨h.1, fun j v hj => let ⟨v', h1, h2⟩ := h.2 j v hj; ⟨v', h1, h2.mono hn hm hz hc hs⟩⟩
theorem VRs.ev {l : List AV} {vs : Array Value} (h : VRs μ Z w H.length l vs) (e : Ev μ Z H w μ' Z' H' w') : VRs μ' Z' w' H'.length l vs := h.mono e.len e.mu e.z e.zcell e.shape

theorem Ev.trans (h : Ev μ Z H w μ' Z' H' w') (k : Ev μ' Z' H' w' μ'' Z'' H'' w'') : Ev μ Z H w μ'' Z'' H'' w'' where
 len := Nat.le_trans h.len k.len
 mu i hi := (k.mu i (Nat.lt_of_lt_of_le hi h.len)).trans (h.mu i hi)
 z c o hz := k.z c o (h.z c o hz)
 zcell c o hz := (k.zcell c o (h.z c o hz)).trans (h.zcell c o hz)
 shape c hc := (k.shape c (Nat.lt_of_lt_of_le hc h.size)).trans (h.shape c hc)
 size := Nat.le_trans h.size k.size
 frame c hc hu := by
  refine (k.frame c (Nat.lt_of_lt_of_le hc h.size) ?_).trans (h.frame c hc hu)
  intro id o hid ha e
  rcases h.own id o hid ha with h1 | ⟨i, oi, h1, h2, h3⟩
  ·omega
  ·exact hu i oi h1 h2 (h3.trans e)
 own id o hid ha := by
  rcases k.own id o hid ha with h1 | ⟨i, oi, h1, h2, h3⟩
  ·exact .inl (Nat.le_trans h.size h1)
  ·rcases h.own i oi h1 h2 with h4 | ⟨j, oj, h4, h5, h6⟩
   ·exact .inl (by omega)
   ·exact .inr ⟨j, oj, h4, h5, h6.trans h3⟩
 znew c o hz := by
  rcases k.znew c o hz with h1 | h1 | ⟨i, oi, h1, h2, h3⟩
  ·exact h.znew c o h1
  ·exact .inr (.inl (Nat.le_trans h.size h1))
  ·rcases h.own i oi h1 h2 with h4 | ⟨j, oj, h4, h5, h6⟩
   ·exact .inr (.inl (by omega))
   ·exact .inr (.inr ⟨j, oj, h4, h5, h6.trans h3⟩)
end
end Go.Av
end

section
namespace Go.Av
open Go.RowKit

def ofVal1 : Value → AV
 | .bool b => .bool b
 | .int k n => .int k n
 | .string s => .str s.data.toList
 | .pointer none => .nilp
 | .slice none 0 0 => .dl 0 [] .full
 | .map none => .map none
 | .nilFunc => .nilfn
 | .nilIface => .nilif
 | _ => .undef
def ofVal : Value → AV
 | .agg cs => .agg (cs.toList.map ofVal1)
 | v => ofVal1 v

/-- An operand's value. -/
def ev (a : List AV) : Operand → AV
 | .tmp t => a.getD t .undef
 | .const v => ofVal v
 | .global _ => .undef
 | .func f => .fn (.func f) [] []

def FW (rd : Option Nat) : Fence := { Fence.wide with round := rd }

/-- An activation, and the marks that loops over functions have left. -/
structure AR (E0 : Nat) (μ : Nat → Nat × Nat) (Z : Nat → Nat → Prop) (w : World) (n : Nat) (a : List AV) (ca : Act) : Prop where
 tmps : VRs μ Z w n a ca.tmps
 e0 : E0 ≤ w.heap.size
 marks : ∃ Ds : List Nat, ca.defers = Ds.map (fun D => { target := .collected D, args := #[] }) ∧ Ds.Nodup ∧ ∀ D, D ∈ Ds → E0 ≤ D ∧ w.heap[D]? = some (.deferred (some []))

/-- What is asked where a piece of code ends. -/
def PQ (B : Nat) (w0 : World) (E0 : Nat) (μ : Nat → Nat × Nat) (Z : Nat → Nat → Prop) (H : AHeap) (w : World) (Q : Exit → List AV → AHeap → Prop) : Exit → Act → World → Prop :=
 fun e ca' w' => ∃ μ' Z' a' H', R B w0 μ' Z' H' w' ∧ AR E0 μ' Z' w' H'.length a' ca' ∧ Ev μ Z H w μ' Z' H' w' ∧ Q e a' H'

/-- Weakest preconditions over abstract states. -/
def AWP (P : Program) (B : Nat) (w0 : World) (rd : Option Nat) (c : Code) (Q : Exit → List AV → AHeap → Prop) (a : List AV) (H : AHeap) : Prop :=
 ∀ E0 μ Z w ca, R B w0 μ Z H w → AR E0 μ Z w H.length a ca → (∀ l, rd = some l → l < H.length) →
  c.wpIn (FW (rd.map fun l => (μ l).1)) 0 P (PQ B w0 E0 μ Z H w Q) ca w

/-- A call over abstract states. -/
def ACall (P : Program) (B : Nat) (w0 : World) (f : FuncId) (args : List AV) (H : AHeap) (K : AV → AHeap → Prop) : Prop :=
 (∀ args w, (callFunc f args).run P w = .ok (.enter f args) w) ∧ ∀ μ Z w cargs, R B w0 μ Z H w → VRs μ Z w H.length args cargs →
  CallsIn (FW none) 0 P f cargs w fun e w' => ∃ v cv μ' Z' H', e = .returned cv ∧ R B w0 μ' Z' H' w' ∧ VR μ' Z' w' H'.length v cv ∧ Ev μ Z H w μ' Z' H' w' ∧ K v H'

def thenQ (next : List AV → AHeap → Prop) (Q : Exit → List AV → AHeap → Prop) : Exit → List AV → AHeap → Prop
 | .normal, a, H => next a H
 | e, a, H => Q e a H

def blockQ (id : Nat) (Q : Exit → List AV → AHeap → Prop) : Exit → List AV → AHeap → Prop
 | .exit id', a, H => if id' = id then Q .normal a H else Q (.exit id') a H
 | e, a, H => Q e a H

section
variable {P : Program} {B : Nat} {w0 : World} {rd : Option Nat} {Q Q' : Exit → List AV → AHeap → Prop} {a : List AV} {H : AHeap}
variable {μ μ' : Nat → Nat × Nat} {Z Z' : Nat → Nat → Prop} {H' : AHeap} {w w' : World} {n : Nat} {E0 : Nat} {ca : Act}

theorem VR.ofVal1 (v : Value) : VR μ Z w n (ofVal1 v) v := by
 unfold Av.ofVal1
 split
 ·exact .bool _
 ·exact .int _ _
 ·rename_i s; obtain ⟨⟨l⟩⟩ := s; exact .str l
 ·exact .nilp
 ·exact .dl0 _ _ _ _ (fun _ => rfl) (by simp)
 ·exact .nilm
 ·exact .nilfn
 ·exact .nilif
 ·exact .undef _

theorem VR.ofVal (v : Value) : VR μ Z w n (Av.ofVal v) v := by
 unfold Av.ofVal
 split
 ·rename_i cs
  refine .agg _ _ (by simp) (fun j => cs.getD j default) ?_ ?_
  ·intro j v hj
   have hl : j < cs.size := by have := (List.getElem?_eq_some_iff.1 hj).1; simpa using this
   simp [Array.getD, hl]
  ·intro j v hj
   have hl : j < cs.size := by have := (List.getElem?_eq_some_iff.1 hj).1; simpa using this
   simp [hl] at hj
   subst hj
   simp only [Array.getD, hl]
   exact VR.ofVal1 _
 ·exact VR.ofVal1 _

theorem AR.ev (h : AR E0 μ Z w n a ca) (x : Operand) : VR μ Z w n (ev a x) (ca.eval x) := by
 cases x with
 | tmp t =>
  simp only [Av.ev, Act.eval, List.getD]
  cases ht : a[t]? with
  | none => exact .undef _
  | some v =>
   obtain ⟨v', h1, h2⟩ := h.tmps.2 t v ht
   simp only [Option.getD_some]
   rw [Array.getD_eq_getD_getElem?, h1]
   exact h2
 | const v => exact VR.ofVal v
 | global g => exact .undef _
 | func f => exact .fn f [] [] #[] #[] rfl rfl (fun _ => default) (fun _ => default) (by simp) (by simp) (by simp) (by simp)

theorem AR.step (h : AR E0 μ Z w H.length a ca) (e : Ev μ Z H w μ' Z' H' w') (hm : ∀ D, E0 ≤ D → w.heap[D]? = some (.deferred (some [])) → w'.heap[D]? = some (.deferred (some []))) : AR E0 μ' Z' w' H'.length a ca :=
 ⟨h.tmps.ev e, Nat.le_trans h.e0 e.size, let ⟨Ds, h1, h2, h3⟩ := h.marks; ⟨Ds, h1, h2, fun D hD => ⟨(h3 D hD).1, hm D (h3 D hD).1 (h3 D hD).2⟩⟩⟩

/-- A block that holds deferred calls is nobody's. -/
theorem R.unowned (h : R B w0 μ Z H w) {c : Nat} {ds : Option (List Deferred)} (hc : w.heap[c]? = some (.deferred ds)) : ∀ id o, H[id]? = some o → o.alive = true → (μ id).1 ≠ c := by
 intro id o hid ha e
 have ho := h.obj id o hid
 subst e
 cases o with
 | dead => cases ha
 | cells cs => obtain ⟨_, _, ccs, e, fr, h1, _⟩ := ho; rw [h1] at hc; cases hc
 | tok => obtain ⟨_, _, ccs, e, fr, h1, _⟩ := ho; rw [h1] at hc; cases hc
 | map es => obtain ⟨_, mes, h1, _⟩ := ho; rw [h1] at hc; cases hc
 | iter => obtain ⟨_, _, _, h1⟩ := ho; rw [h1] at hc; cases hc
 | loop => obtain ⟨_, r, h1, _⟩ := ho; rw [h1] at hc; cases hc

theorem AR.evolve (h : AR E0 μ Z w H.length a ca) (hR : R B w0 μ Z H w) (e : Ev μ Z H w μ' Z' H' w') : AR E0 μ' Z' w' H'.length a ca :=
 h.step e fun D _ hD => by
  have hlt : D < w.heap.size := by
   rcases Nat.lt_or_ge D w.heap.size with h1 | h1
   ·exact h1
   ·rw [Array.getElem?_eq_none h1] at hD; cases hD
  rw [e.frame D hlt (hR.unowned hD)]; exact hD

theorem AWP.mono {c : Code} (h : AWP P B w0 rd c Q a H) (hq : ∀ e a H, Q e a H → Q' e a H) : AWP P B w0 rd c Q' a H :=
 fun E0 μ Z w ca h1 h2 h3 => wpIn_mono (h E0 μ Z w ca h1 h2 h3) fun _ _ _ ⟨μ', Z', a', H', k1, k2, k3, k4⟩ => ⟨μ', Z', a', H', k1, k2, k3, hq _ _ _ k4⟩

theorem PQ.here (h1 : R B w0 μ Z H w) (h2 : AR E0 μ Z w H.length a ca) {e : Exit} (hq : Q e a H) : PQ B w0 E0 μ Z H w Q e ca w :=
 ⟨μ, Z, a, H, h1, h2, Ev.refl μ Z H w, hq⟩

theorem AWP.skip (h : Q .normal a H) : AWP P B w0 rd .skip Q a H := fun _ _ _ _ _ h1 h2 _ => wpIn_skip (PQ.here h1 h2 h)
theorem AWP.exit {id : Nat} (h : Q (.exit id) a H) : AWP P B w0 rd (.exit id) Q a H := fun _ _ _ _ _ h1 h2 _ => wpIn_exit (PQ.here h1 h2 h)
theorem AWP.ret (h : Q .ret a H) : AWP P B w0 rd .ret Q a H := fun _ _ _ _ _ h1 h2 _ => wpIn_ret (PQ.here h1 h2 h)

theorem rd_same {μ μ' : Nat → Nat × Nat} (h3 : ∀ l, rd = some l → l < H.length) (e : ∀ i, i < H.length → μ' i = μ i) : (rd.map fun l => (μ' l).1) = rd.map fun l => (μ l).1 := by
 cases rd with
 | none => rfl
 | some l => simp [e l (h3 l rfl)]

theorem AWP.seq {x y : Code} (h : AWP P B w0 rd x (thenQ (AWP P B w0 rd y Q) Q) a H) : AWP P B w0 rd (.seq x y) Q a H := by
 intro E0 μ Z w ca h1 h2 h3
 refine wpIn_seq (wpIn_mono (h E0 μ Z w ca h1 h2 h3) ?_)
 rintro e ca' w' ⟨μ', Z', a', H', k1, k2, k3, k4⟩
 cases e with
 | normal =>
  have := k4 E0 μ' Z' w' ca' k1 k2 (fun l hl => Nat.lt_of_lt_of_le (h3 l hl) k3.len)
  rw [rd_same h3 k3.mu] at this
  refine wpIn_mono this ?_
  rintro e ca'' w'' ⟨μ'', Z'', a'', H'', j1, j2, j3, j4⟩
  exact ⟨μ'', Z'', a'', H'', j1, j2, k3.trans j3, j4⟩
 | _ => exact ⟨μ', Z', a', H', k1, k2, k3, k4⟩

theorem AWP.cond {c : Operand} {x y : Code} {t : Bool} (hc : ev a c = .bool t) (h1 : t = true → AWP P B w0 rd x Q a H) (h2 : t = false → AWP P B w0 rd y Q a H) :
  AWP P B w0 rd (.cond c x y) Q a H := by
 intro E0 μ Z w ca k1 k2 k3
 have hv := k2.ev c
 rw [hc] at hv
 have hcc : ca.eval c = .bool t := by generalize ca.eval c = z at hv; cases hv; rfl
 refine wpIn_cond_split hcc (fun e => h1 e E0 μ Z w ca k1 k2 k3) (fun e => h2 e E0 μ Z w ca k1 k2 k3)

theorem AWP.block {id : Nat} {c : Code} (h : AWP P B w0 rd c (blockQ id Q) a H) : AWP P B w0 rd (.block id c) Q a H := by
 intro E0 μ Z w ca h1 h2 h3
 refine wpIn_block (wpIn_mono (h E0 μ Z w ca h1 h2 h3) ?_)
 rintro e ca' w' ⟨μ', Z', a', H', k1, k2, k3, k4⟩
 cases e with
 | exit id' =>
  simp only [Exit.inBlock]
  simp only [blockQ] at k4
  split
  ·rename_i he; rw [if_pos he] at k4; exact ⟨μ', Z', a', H', k1, k2, k3, k4⟩
  ·rename_i he; rw [if_neg he] at k4; exact ⟨μ', Z', a', H', k1, k2, k3, k4⟩
 | _ => exact ⟨μ', Z', a', H', k1, k2, k3, k4⟩

/-- What may be said of a value in place of what is known. -/
def wkV (x y : AV) : Prop := x = .undef ∨ x = y ∨ ∃ s s' es tl tl', x = .dl s es tl ∧ y = .dl s' es tl' ∧ (tl = tl' ∨ tl = .none) ∧ (s = s' ∨ (es = [] ∧ ∀ t, tl ≠ .tok t))

theorem VR.weak {x y : AV} {cv : Value} (h : VR μ Z w n y cv) (k : wkV x y) : VR μ Z w n x cv := by
 rcases k with rfl | rfl | ⟨s, s', es, tl, tl', rfl, rfl, h1, h2⟩
 ·exact .undef _
 ·exact h
 ·rcases h2 with rfl | ⟨rfl, h2⟩
  ·cases h with
   | dl0 _ _ a cap q1 q2 =>
    rcases h1 with rfl | rfl
    ·exact .dl0 _ _ a cap q1 q2
    ·exact .dl0 _ _ a cap (fun e => by cases e) (fun t e => by cases e)
   | dl _ _ _ c o cap f q1 q2 q3 q4 q5 q6 q7 =>
    rcases h1 with rfl | rfl
    ·exact .dl _ _ _ c o cap f q1 q2 q3 q4 q5 q6 q7
    ·exact .dl _ _ _ c o cap f q1 q2 q3 q4 q5 q6 trivial
  ·cases h with
   | dl0 _ _ a cap q1 q2 => exact .dl0 _ _ a cap (fun e => by rcases h1 with rfl | rfl <;> first | exact q1 e | cases e) h2
   | dl _ _ _ c o cap f q1 q2 q3 q4 q5 q6 q7 =>
    refine .dl0 _ _ _ cap (fun e => ?_) h2
    rcases h1 with rfl | rfl
    ·subst e; exact q7
    ·cases e

/-- Places that nobody asks again may be forgotten. -/
def Wk : List AV → List AV → Prop
 | [], [] => True
 | x :: l, y :: l' => wkV x y ∧ Wk l l'
 | _, _ => False

theorem Wk.spec : ∀ {l l' : List AV}, Wk l l' → l.length = l'.length ∧ ∀ (j : Nat) (v : AV), l[j]? = some v → ∃ v', l'[j]? = some v' ∧ wkV v v'
 | [], [], _ => ⟨rfl, fun j v h => by simp at h⟩
 | x :: l, y :: l', h => by
  obtain ⟨h1, h2⟩ := h
  obtain ⟨k1, k2⟩ := Wk.spec h2
  refine ⟨by simp [k1], fun j v hj => ?_⟩
  cases j with
  | zero =>
   simp at hj ⊢
   subst hj
   exact h1
  | succ j => simpa using k2 j v (by simpa using hj)
 | [], _ :: _, h => h.elim
 | _ :: _, [], h => h.elim

theorem Wk.refl : ∀ (l : List AV), Wk l l
 | [] => trivial
 | _ :: l => ⟨.inr (.inl rfl), Wk.refl l⟩

/-- What may be said of a slice in place of what is known, its elements too. -/
def wkD (x y : AV) : Prop := wkV x y ∨ ∃ sz es es' tl, x = .dl sz es tl ∧ y = .dl sz es' tl ∧ es.length = es'.length ∧ (∀ e, e ∈ es → e.cells.length = sz) ∧ Wk (flat es) (flat es')
theorem wkD.refl (x : AV) : wkD x x := .inl (.inr (.inl rfl))
theorem VR.weakD {x y : AV} {cv : Value} (h : VR μ Z w n y cv) (k : wkD x y) : VR μ Z w n x cv := by
 rcases k with k | ⟨sz, es, es', tl, rfl, rfl, hl, hs, hw⟩
 ·exact h.weak k
 ·obtain ⟨k1, k2⟩ := hw.spec
  cases h with
  | dl0 _ _ a cap q1 q2 =>
   have : es = [] := List.length_eq_zero_iff.1 (by simpa using hl)
   subst this
   exact .dl0 _ _ a cap q1 q2
  | dl _ _ _ c o cap f q1 q2 q3 q4 q5 q6 q7 =>
   rw [← hl] at q2 q7 ⊢
   refine .dl _ _ _ c o cap f hs q2 (fun j v hj => ?_) (fun j hj => q4 j (by omega)) (fun j v hj => ?_) (fun j hj => q6 j (by omega)) q7
   ·obtain ⟨v', p1, _⟩ := k2 j v hj
    exact q3 j v' p1
   ·obtain ⟨v', p1, p2⟩ := k2 j v hj
    exact (q5 j v' p1).weak p2

theorem VRs.weak {l l' : List AV} {vs : Array Value} (h : VRs μ Z w n l' vs) (k : Wk l l') : VRs μ Z w n l vs := by
 obtain ⟨k1, k2⟩ := k.spec
 refine ⟨k1.trans h.1, fun j v hj => ?_⟩
 obtain ⟨v', q1, q2⟩ := k2 j v hj
 obtain ⟨cv, q3, q4⟩ := h.2 j v' q1
 exact ⟨cv, q3, q4.weak q2⟩

theorem AR.weak {a' : List AV} (h : AR E0 μ Z w n a ca) (k : Wk a' a) : AR E0 μ Z w n a' ca := ⟨h.tmps.weak k, h.e0, h.marks⟩

theorem AWP.weak {a' : List AV} {c : Code} (h : AWP P B w0 rd c Q a' H) (k : Wk a' a) : AWP P B w0 rd c Q a H :=
 fun E0 μ Z w ca h1 h2 h3 => h E0 μ Z w ca h1 (h2.weak k) h3

/-- A loop: σ is what its rounds go over, env the activation, I what holds of the heap. -/
theorem AWP.loop {σ : Type} {c : Code} (env : σ → List AV) (I : σ → AHeap → Prop) (m : σ → Nat)
  (h0 : ∃ s, Wk (env s) a ∧ I s H)
  (round : ∀ s H', I s H' → H.length ≤ H'.length → AWP P B w0 rd c (thenQ (fun a' H'' => ∃ s', Wk (env s') a' ∧ I s' H'' ∧ m s' < m s) Q) (env s) H') : AWP P B w0 rd (.loop c) Q a H := by
 intro E0 μ Z w ca h1 h2 h3
 obtain ⟨s0, hs0, hI0⟩ := h0
 -- the relation carries a ghost: the state's measure is read off the frame's ghost by choice
 let Inv : Act → World → Nat → Prop := fun ca' w' j => ∃ s μ' Z' H', m s = j ∧ I s H' ∧ R B w0 μ' Z' H' w' ∧ AR E0 μ' Z' w' H'.length (env s) ca' ∧ Ev μ Z H w μ' Z' H' w'
 have key : ∀ j (b : Frame) (k : List Item) (cs : List Frame) (ca' : Act) (w' : World), Inv ca' w' j → b.roundOf = (FW (rd.map fun l => (μ l).1)).round → (FW (rd.map fun l => (μ l).1)).fn b.fn → (FW (rd.map fun l => (μ l).1)).room (cs.length + 1 + 0) →
   ∃ e a' w'', PQ B w0 E0 μ Z H w Q e a' w'' ∧ ArrivesIn (Machine.fenced P (FW (rd.map fun l => (μ l).1))) P (lone (b.atR ca' (.code c :: .inLoop c :: k)) cs w') b k cs e a' w'' := by
  intro j
  induction j using Nat.strongRecOn with
  | _ j ih =>
   intro b k cs ca' w' hI hro hb hr
   obtain ⟨s, μ', Z', H', hm, hIs, hR, hA, hE⟩ := hI
   have hrd := rd_same h3 hE.mu
   have hround := round s H' hIs hE.len E0 μ' Z' w' ca' hR hA (fun l hl => Nat.lt_of_lt_of_le (h3 l hl) hE.len)
   rw [hrd] at hround
   obtain ⟨e, ca₁, w₁, hq, harr⟩ := hround b (.inLoop c :: k) cs hro hb hr
   obtain ⟨μ₁, Z₁, a₁, H₁, k1, k2, k3, k4⟩ := hq
   cases e with
   | normal =>
    obtain ⟨s', hw', hI', hlt⟩ := k4
    obtain ⟨e₂, a₂, w₂, hq₂, harr₂⟩ := ih (m s') (hm ▸ hlt) b k cs ca₁ w₁ ⟨s', μ₁, Z₁, H₁, rfl, hI', k1, k2.weak hw', hE.trans k3⟩ hro hb hr
    exact ⟨e₂, a₂, w₂, hq₂, .of_steps (StepsIn.trans harr (.one (fenced_calm hb hr rfl) stepR_inLoop)) harr₂⟩
   | exit id => exact ⟨_, ca₁, w₁, ⟨μ₁, Z₁, a₁, H₁, k1, k2, hE.trans k3, k4⟩, .pass (x := .inLoop c) rfl (fun _ _ => .inl (by simp)) harr⟩
   | goto l => exact ⟨_, ca₁, w₁, ⟨μ₁, Z₁, a₁, H₁, k1, k2, hE.trans k3, k4⟩, .pass (x := .inLoop c) rfl (fun _ _ => .inl (by simp)) harr⟩
   | ret => exact ⟨_, ca₁, w₁, ⟨μ₁, Z₁, a₁, H₁, k1, k2, hE.trans k3, k4⟩, .pass (x := .inLoop c) rfl (fun _ _ => .inl (by simp)) harr⟩
   | panic ch => exact ⟨_, ca₁, w₁, ⟨μ₁, Z₁, a₁, H₁, k1, k2, hE.trans k3, k4⟩, .pass (x := .inLoop c) rfl (fun _ _ => .inl (by simp)) harr⟩
   | outgrown => exact ⟨_, ca₁, w₁, ⟨μ₁, Z₁, a₁, H₁, k1, k2, hE.trans k3, k4⟩, .pass (x := .inLoop c) rfl (fun _ _ => .inl (by simp)) harr⟩
 intro b k cs hro hb hr
 obtain ⟨e, a', w', hq, harr⟩ := key _ b k cs ca w ⟨s0, μ, Z, H, rfl, hI0, h1, h2.weak hs0, Ev.refl μ Z H w⟩ hro hb hr
 exact ⟨e, a', w', hq, .of_steps (.one (fenced_calm hb hr rfl) stepR_loop) harr⟩

/-- Where two ways meet again. -/
theorem AWP.cut {x y : Code} (Mid : List AV → AHeap → Prop) (h1 : AWP P B w0 rd x (thenQ (fun a' H' => ∃ a2, Wk a2 a' ∧ Mid a2 H') Q) a H) (h2 : ∀ a' H', H.length ≤ H'.length → Mid a' H' → AWP P B w0 rd y Q a' H') : AWP P B w0 rd (.seq x y) Q a H := by
 refine AWP.seq ?_
 intro E0 μ Z w ca k1 k2 k3
 refine wpIn_mono (h1 E0 μ Z w ca k1 k2 k3) ?_
 rintro e ca' w' ⟨μ', Z', a', H', j1, j2, j3, j4⟩
 refine ⟨μ', Z', a', H', j1, j2, j3, ?_⟩
 cases e with
 | normal => obtain ⟨a2, hw, hm⟩ := j4; exact (h2 a2 H' j3.len hm).weak hw
 | _ => exact j4
end
end Go.Av
end

section
namespace Go.Av
open Go.RowKit

inductive TK where
 | bool | int (k : IntKind) | str | ptr | slice (e : TypeId) | array (n : Nat) (e : TypeId) | struct (fs : List (Nat × TypeId)) | map (k e : TypeId) | func | iface | other
 deriving Inhabited

structure TyA where
 kind : TK
 size : Nat
 bytes : Nat
 zero : Option AV
 deriving Inhabited

def kindOf : TypeDesc → TK
 | .bool => .bool
 | .int k => .int k
 | .string => .str
 | .pointer _ => .ptr
 | .slice e => .slice e
 | .array n e => .array n e
 | .struct fs => .struct (fs.toList.map fun f => (f.offset, f.type))
 | .map k e => .map k e
 | .func _ _ _ => .func
 | .interface _ => .iface
 | _ => .other

/-- What the operations ask of a type. -/
def tyA (P : Program) (t : TypeId) : Option TyA :=
 match P.info? t, P.underlying t with
 | some i, some d => some { kind := kindOf d, size := i.size, bytes := i.bytes, zero := i.zero.map ofVal }
 | _, _ => none

def isAggK : TK → Bool
 | .struct _ => true
 | .array _ _ => true
 | _ => false

section
variable {P : Program} {w : World} {t : TypeId} {i : TyA}

theorem tyA_spec (h : tyA P t = some i) : ∃ inf d, P.info? t = some inf ∧ P.underlying t = some d ∧ i.kind = kindOf d ∧ i.size = inf.size ∧ i.bytes = inf.bytes ∧ i.zero = inf.zero.map ofVal := by
 unfold tyA at h
 split at h
 ·rename_i inf d h1 h2
  cases h
  exact ⟨inf, d, h1, h2, rfl, rfl, rfl, rfl⟩
 ·cases h

theorem run_und {d : TypeDesc} (h : P.underlying t = some d) : (underlying t).run P w = .ok d w := run_underlying h w
theorem run_typeInfo' {inf : TypeInfo} (h : P.info? t = some inf) : (typeInfo t).run P w = .ok inf w := by
 simp [typeInfo, h]
theorem run_sizeOf' (h : tyA P t = some i) : (sizeOf t).run P w = .ok i.size w := by
 obtain ⟨inf, d, h1, _, _, h4, _⟩ := tyA_spec h
 simp [sizeOf, run_typeInfo' h1, h4]
theorem run_isAgg' (h : tyA P t = some i) : (isAgg t).run P w = .ok (isAggK i.kind) w := by
 obtain ⟨inf, d, _, h2, h3, _⟩ := tyA_spec h
 rw [h3]
 cases d <;> simp [isAgg, run_und h2, isAggK, kindOf]
theorem kind_slice {e : TypeId} (h : tyA P t = some i) (hk : i.kind = .slice e) : P.underlying t = some (.slice e) := by
 obtain ⟨inf, d, _, h2, h3, _⟩ := tyA_spec h
 rw [hk] at h3
 cases d <;> simp [kindOf] at h3
 subst h3; exact h2
theorem kind_array {n : Nat} {e : TypeId} (h : tyA P t = some i) (hk : i.kind = .array n e) : P.underlying t = some (.array n e) := by
 obtain ⟨inf, d, _, h2, h3, _⟩ := tyA_spec h
 rw [hk] at h3
 cases d <;> simp [kindOf] at h3
 obtain ⟨rfl, rfl⟩ := h3; exact h2
theorem kind_struct {fs : List (Nat × TypeId)} (h : tyA P t = some i) (hk : i.kind = .struct fs) : ∃ gs : Array Field, P.underlying t = some (.struct gs) ∧ gs.toList.map (fun f => (f.offset, f.type)) = fs := by
 obtain ⟨inf, d, _, h2, h3, _⟩ := tyA_spec h
 rw [hk] at h3
 cases d <;> simp [kindOf] at h3
 rename_i gs
 exact ⟨gs, h2, h3.symm⟩
theorem kind_int {k : IntKind} (h : tyA P t = some i) (hk : i.kind = .int k) : P.underlying t = some (.int k) := by
 obtain ⟨inf, d, _, h2, h3, _⟩ := tyA_spec h
 rw [hk] at h3
 cases d <;> simp [kindOf] at h3
 subst h3; exact h2
theorem kind_str (h : tyA P t = some i) (hk : i.kind = .str) : P.underlying t = some .string := by
 obtain ⟨inf, d, _, h2, h3, _⟩ := tyA_spec h
 rw [hk] at h3
 cases d <;> simp [kindOf] at h3
 exact h2
theorem kind_bool (h : tyA P t = some i) (hk : i.kind = .bool) : P.underlying t = some .bool := by
 obtain ⟨inf, d, _, h2, h3, _⟩ := tyA_spec h
 rw [hk] at h3
 cases d <;> simp [kindOf] at h3
 exact h2
theorem kind_map {k e : TypeId} (h : tyA P t = some i) (hk : i.kind = .map k e) : P.underlying t = some (.map k e) := by
 obtain ⟨inf, d, _, h2, h3, _⟩ := tyA_spec h
 rw [hk] at h3
 cases d <;> simp [kindOf] at h3
 obtain ⟨rfl, rfl⟩ := h3; exact h2
theorem kind_ptr (h : tyA P t = some i) (hk : i.kind = .ptr) : ∃ e, P.underlying t = some (.pointer e) := by
 obtain ⟨inf, d, _, h2, h3, _⟩ := tyA_spec h
 rw [hk] at h3
 cases d <;> simp [kindOf] at h3
 exact ⟨_, h2⟩
theorem kind_func (h : tyA P t = some i) (hk : i.kind = .func) : ∃ x y z, P.underlying t = some (.func x y z) := by
 obtain ⟨inf, d, _, h2, h3, _⟩ := tyA_spec h
 rw [hk] at h3
 cases d <;> simp [kindOf] at h3
 exact ⟨_, _, _, h2⟩
theorem zero_some {z : AV} (h : tyA P t = some i) (hz : i.zero = some z) : ∃ (inf : TypeInfo) (zv : Value), P.info? t = some inf ∧ inf.zero = some zv ∧ z = ofVal zv ∧ (zeroValue t).run P w = .ok zv w := by
 obtain ⟨inf, d, h1, _, _, _, _, h6⟩ := tyA_spec h
 rw [hz] at h6
 cases hv : inf.zero with
 | none => rw [hv] at h6; cases h6
 | some zv =>
  rw [hv] at h6
  simp at h6
  exact ⟨inf, zv, h1, hv, h6, by simp [zeroValue, run_typeInfo' h1, hv]⟩
end

/-- A variable of type t out of the cells l, from the first on. -/
def loadA (P : Program) (t : TypeId) (l : List AV) : Option AV :=
 match tyA P t with
 | some i => if isAggK i.kind then (if i.size ≤ l.length then some (.agg (l.take i.size)) else none) else l.head?
 | none => none

/-- The cells from an address on. -/
def cellsAt (H : AHeap) : AV → Option (List AV)
 | .ptr id off => match H[id]? with
  | some (.cells cs) => some (cs.drop off)
  | _ => none
 | .dp cs off => some (cs.drop off)
 | _ => none

section
variable {P : Program} {B : Nat} {w0 : World} {a : List AV} {H : AHeap} {μ : Nat → Nat × Nat} {Z : Nat → Nat → Prop} {w : World} {n : Nat}

theorem cells_get {v : AV} {cv : Value} {l : List AV} (h : cellsAt H v = some l) (hR : R B w0 μ Z H w) (hv : VR μ Z w H.length v cv) :
  ∃ c o, cv = .pointer (some ⟨c, o, none⟩) ∧ ∀ j x, l[j]? = some x → ∃ u, w.cell? ⟨c, o + j, none⟩ = some u ∧ u.oneCell' = true ∧ VR μ Z w H.length x u := by
 cases v with
 | ptr id off =>
  simp only [cellsAt] at h
  split at h
  ·rename_i cs hid
   cases h
   cases hv
   obtain ⟨_, _, ccs, e, fr, h1, h2, h3, h4⟩ := hR.obj id _ hid
   refine ⟨_, _, rfl, fun j x hj => ?_⟩
   rw [List.getElem?_drop] at hj
   obtain ⟨u, hu, h5, h6⟩ := h4 _ _ hj
   exact ⟨u, by rw [cell_of_row w _ _ ccs e fr h1, Nat.add_assoc]; exact hu, h5, h6⟩
  ·cases h
 | dp cs off =>
  simp only [cellsAt, Option.some.injEq] at h
  subst h
  cases hv with
  | dp _ _ c o f h1 h2 h3 h5 =>
   refine ⟨c, o + off, rfl, fun j x hj => ?_⟩
   rw [List.getElem?_drop] at hj
   exact ⟨_, by rw [Nat.add_assoc]; exact h1 _ _ hj, h5 _ (List.getElem?_eq_some_iff.1 hj).1, h3 _ _ hj⟩
 | _ => cases h

theorem addr_add (c o j : Nat) : (⟨c, o, none⟩ : Addr).add j = ⟨c, o + j, none⟩ := by
 unfold Addr.add; split <;> simp_all

theorem load_run {t : TypeId} {l : List AV} {v : AV} {c o : Nat} (h : loadA P t l = some v)
  (hc : ∀ j x, l[j]? = some x → ∃ u, w.cell? ⟨c, o + j, none⟩ = some u ∧ u.oneCell' = true ∧ VR μ Z w n x u) :
  ∃ cv, (loadVar t ⟨c, o, none⟩).run P w = .ok cv w ∧ VR μ Z w n v cv ∧ (∀ i, tyA P t = some i → cv.cells.size = if isAggK i.kind then i.size else 1) := by
 unfold loadA at h
 split at h
 ·rename_i i hi
  split at h
  ·rename_i hagg
   split at h
   ·rename_i hle
    cases h
    obtain ⟨f, hf⟩ : ∃ f : Nat → Value, ∀ j x, l[j]? = some x → w.cell? ⟨c, o + j, none⟩ = some (f j) ∧ VR μ Z w n x (f j) := by
     refine ⟨fun j => (w.cell? ⟨c, o + j, none⟩).getD default, fun j x hj => ?_⟩
     obtain ⟨u, h1, _, h3⟩ := hc j x hj
     simp only [h1, Option.getD_some]
     exact ⟨trivial, h3⟩
    refine ⟨.agg ((List.range i.size).map f).toArray, ?_, ?_, ?_⟩
    ·have := run_loadCells (P := P) w ⟨c, o, none⟩ i.size f (fun j hj => by
      rw [addr_add]; exact (hf j l[j] (List.getElem?_eq_getElem (by omega))).1)
     simp [loadVar, run_isAgg' hi, hagg, run_sizeOf' hi, this]
    ·refine .agg _ _ (by simp; omega) f ?_ ?_
     ·intro j x hj
      have hlt : j < i.size := by have := (List.getElem?_eq_some_iff.1 hj).1; simp at this; omega
      simp [hlt]
     ·intro j x hj
      rw [List.getElem?_take] at hj
      split at hj
      ·exact (hf j x hj).2
      ·cases hj
    ·intro i' hi'
     rw [hi] at hi'
     cases hi'
     simp [hagg, Value.cells]
   ·cases h
  ·rename_i hagg
   obtain ⟨u, h1, h2, h3⟩ := hc 0 v (by simpa [List.head?_eq_getElem?] using h)
   refine ⟨u, ?_, h3, ?_⟩
   ·simp only [Nat.add_zero] at h1
    simp [loadVar, run_isAgg' hi, hagg, h1]
   ·intro i' hi'
    rw [hi] at hi'
    cases hi'
    simp only [hagg]
    cases u <;> simp_all [Value.cells, Value.oneCell']
 ·cases h
end
end Go.Av
end

section
set_option linter.unusedSimpArgs false
set_option linter.unusedVariables false
namespace Go.Av
open Go.RowKit

def bitsA (op : BinOp) (k : IntKind) (x y : Int) : Int :=
 match op with
 | .and => k.wrap (BitVec.ofInt k.bits x &&& BitVec.ofInt k.bits y).toNat
 | .or => k.wrap (BitVec.ofInt k.bits x ||| BitVec.ofInt k.bits y).toNat
 | .xor => k.wrap (BitVec.ofInt k.bits x ^^^ BitVec.ofInt k.bits y).toNat
 | _ => k.wrap (BitVec.ofInt k.bits x &&& ~~~BitVec.ofInt k.bits y).toNat

def binI (op : BinOp) (k : IntKind) (a b : Int) : Option AV :=
 match op with
 | .add => some (.int k (k.wrap (a + b)))
 | .sub => some (.int k (k.wrap (a - b)))
 | .mul => some (.int k (k.wrap (a * b)))
 | .quo => if b = 0 then none else some (.int k (k.wrap (a.tdiv b)))
 | .rem => if b = 0 then none else some (.int k (a.tmod b))
 | .and => some (.int k (bitsA .and k a b))
 | .or => some (.int k (bitsA .or k a b))
 | .xor => some (.int k (bitsA .xor k a b))
 | .andNot => some (.int k (bitsA .andNot k a b))
 | .eql => some (.bool (decide (a = b)))
 | .neq => some (.bool (!decide (a = b)))
 | .lss => some (.bool (decide (a < b)))
 | .leq => some (.bool (decide (a ≤ b)))
 | .gtr => some (.bool (decide (b < a)))
 | .geq => some (.bool (decide (b ≤ a)))
 | _ => none

def strLess : List UInt8 → List UInt8 → Bool := Op.bytesLess

def binS (op : BinOp) (a b : List UInt8) : Option AV :=
 match op with
 | .add => if a.length + b.length ≤ 9223372036854775807 then some (.str (a ++ b)) else none
 | .eql => some (.bool (decide (a = b)))
 | .neq => some (.bool (!decide (a = b)))
 | .lss => some (.bool (strLess a b))
 | .leq => some (.bool (strLess a b || decide (a = b)))
 | .gtr => some (.bool (!(strLess a b || decide (a = b))))
 | .geq => some (.bool (!strLess a b))
 | _ => none

def isK (P : Program) (t : TypeId) (p : TK → Bool) : Bool := match tyA P t with | some i => p i.kind | none => false

def isBoolK : TK → Bool | .bool => true | _ => false
def isPtrK : TK → Bool | .ptr => true | _ => false
def isFuncK : TK → Bool | .func => true | _ => false

def shlI (k : IntKind) (a b : Int) : Option AV := if b < 0 then none else some (.int k (k.wrap (a * 2 ^ min b.toNat k.bits)))
def shrI (k : IntKind) (a b : Int) : Option AV := if b < 0 then none else some (.int k (a.fdiv (2 ^ min b.toNat k.bits)))

def intsA : List AV → Option (List Int)
 | [] => some []
 | .int .i64 n :: l => (intsA l).map (n :: ·)
 | _ => none
def eqA (op : BinOp) : Option (List Int) → Option (List Int) → Option AV
 | some as, some bs => if as.length = bs.length then (match op with
  | .eql => some (.bool (decide (as = bs)))
  | .neq => some (.bool (!decide (as = bs)))
  | _ => none) else none
 | _, _ => none
def isI64T (P : Program) (t : TypeId) : Bool := match P.underlying t with
 | some (.int .i64) => true
 | _ => false
def eqF (P : Program) (i : Nat) (f : Field) : Bool := f.name != "_" && f.offset == i && isI64T P f.type
def eqTyB (P : Program) (t : TypeId) (n : Nat) : Bool := (match P.underlying t with
 | some (.struct fs) => (match fs.toList with
  | [f, g] => n == 2 && eqF P 0 f && eqF P 1 g
  | [f, g, h] => n == 3 && eqF P 0 f && eqF P 1 g && eqF P 2 h
  | _ => false)
 | _ => false) && !P.stoodInHeld t && !P.eqGuardType P.depth t
def binA (P : Program) (op : BinOp) (t : TypeId) (x y : AV) : Option AV :=
 match x, y with
 | .int k a, .int k' b => match op with
  | .shl => shlI k a b
  | .shr => shrI k a b
  | op => if k = k' then binI op k a b else none
 | .str a, .str b => binS op a b
 | .bool a, .bool b => if isK P t isBoolK then (match op with | .eql => some (.bool (a == b)) | .neq => some (.bool (!(a == b))) | _ => none) else none
 | .nilp, .nilp => if isK P t isPtrK then (match op with | .eql => some (.bool true) | .neq => some (.bool false) | _ => none) else none
 | .nilp, .ptr _ _ => if isK P t isPtrK then (match op with | .eql => some (.bool false) | .neq => some (.bool true) | _ => none) else none
 | .ptr _ _, .nilp => if isK P t isPtrK then (match op with | .eql => some (.bool false) | .neq => some (.bool true) | _ => none) else none
 | .nilfn, .nilfn => if isK P t isFuncK then (match op with | .eql => some (.bool true) | .neq => some (.bool false) | _ => none) else none
 | .fn _ _ _, .nilfn => if isK P t isFuncK then (match op with | .eql => some (.bool false) | .neq => some (.bool true) | _ => none) else none
 | .agg xs, .agg ys => if eqTyB P t xs.length then eqA op (intsA xs) (intsA ys) else none
 | _, _ => none

def unA (op : UnOp) (x : AV) : Option AV :=
 match op, x with
 | .neg, .int k n => some (.int k (k.wrap (0 - n)))
 | .xor, .int k n => some (.int k (bitsA .xor k (if k.signed then -1 else k.max) n))
 | .not, .bool b => some (.bool (!b))
 | _, _ => none

/-- The numbers of a list of bytes. -/
def allU8 : List AV → Option (List Int)
 | [] => some []
 | .int .u8 n :: l => (allU8 l).map (n :: ·)
 | _ => none
def strOf (l : List Int) : List UInt8 := l.map fun n => UInt8.ofNat n.toNat

def convA (P : Program) (src dst : TypeId) (x : AV) : Option AV :=
 match tyA P src, tyA P dst with
 | some i, some j => match j.kind, x with
  | .int k, .int _ n => some (.int k (k.wrap n))
  | .str, .str s => some (.str s)
  | .str, .dl sz es _ => match i.kind with
   | .slice e => if isK P e (fun | .int .u8 => true | _ => false) && (sz == 1 || es.isEmpty) then (allU8 es).map fun l => .str (strOf l) else none
   | _ => none
  | _, _ => none
 | _, _ => none

/-- An address, some cells on. -/
def plus (x : AV) (k : Nat) : Option AV :=
 match x with
 | .ptr id o => some (.ptr id (o + k))
 | .dp cs o => some (.dp cs (o + k))
 | _ => none

def fieldAddrA (P : Program) (s : TypeId) (x : AV) (f : Nat) : Option AV :=
 match tyA P s with
 | some i => match i.kind with
  | .struct fs => match fs[f]? with
   | some (off, ft) => match tyA P ft with
    | some j => if j.size = 0 then none else plus x off
    | none => none
   | none => none
  | _ => none
 | none => none

def fieldA (P : Program) (t : TypeId) (x : AV) (f : Nat) : Option AV :=
 match tyA P t with
 | some i => match i.kind, x with
  | .struct fs, .agg cs => match fs[f]? with
   | some (off, ft) => loadA P ft (cs.drop off)
   | none => none
  | _, _ => none
 | none => none

def indexAddrA (P : Program) (t : TypeId) (x i : AV) : Option AV :=
 match tyA P t, i with
 | some ti, .int _ n => match ti.kind with
  | .slice e => match tyA P e with
   | some te => match x with
    | .dl sz es _ => if 0 ≤ n ∧ n < es.length ∧ sz = te.size then some (.dp (es.getD n.toNat .undef).cells 0) else none
    | .sl sz id off len => if 0 ≤ n ∧ n < len ∧ sz = te.size then some (.ptr id (off + n.toNat * sz)) else none
    | _ => none
   | none => none
  | .array m e => match tyA P e with
   | some te => if 0 ≤ n ∧ n < m then plus x (n.toNat * te.size) else none
   | none => none
  | _ => none
 | _, _ => none

def indexA (P : Program) (t : TypeId) (x i : AV) : Option AV :=
 match tyA P t, i with
 | some ti, .int _ n => match ti.kind, x with
  | .str, .str s => if 0 ≤ n ∧ n < s.length then some (.int .u8 ((s.getD n.toNat 0).toNat : Int)) else none
  | .array m e, .agg cs => match tyA P e with
   | some te => if 0 ≤ n ∧ n < m then loadA P e (cs.drop (n.toNat * te.size)) else none
   | none => none
  | _, _ => none
 | _, _ => none

def extractA (x : AV) (i : Nat) : Option AV :=
 match x with
 | .tup vs => vs[i]?
 | _ => none

def nilCheckA (x : AV) : Option AV :=
 match x with
 | .ptr id o => some (.ptr id o)
 | .dp cs o => some (.dp cs o)
 | .fn f a b => some (.fn f a b)
 | _ => none

def pickA (c x y : AV) : Option AV :=
 match c with
 | .bool b => some (bif b then x else y)
 | _ => none

section
variable {P : Program} {B : Nat} {w0 : World} {a : List AV} {H : AHeap} {μ : Nat → Nat × Nat} {Z : Nat → Nat → Prop} {w : World} {n : Nat}
variable {x y v : AV} {cx cy : Value}

theorem beq_dec {α : Type} [BEq α] [LawfulBEq α] [DecidableEq α] (a b : α) : (a == b) = decide (a = b) := by
 rw [Bool.eq_iff_iff]; simp

theorem isK_spec {t : TypeId} {p : TK → Bool} (h : isK P t p = true) : ∃ i, tyA P t = some i ∧ p i.kind = true := by
 unfold isK at h
 split at h
 ·exact ⟨_, ‹_›, h⟩
 ·cases h

theorem eqGuard_ok {op : BinOp} {t : TypeId} {ox oy : Operand} {p q : Value} (h : (∀ c, p ≠ .agg c) ∧ p ≠ .nilIface) : (eqGuard op t ox oy p q).run P w = .ok () w := by
 unfold eqGuard
 cases p <;> cases q <;> cases op <;> simp_all [pure, Sem.run]

theorem binI_run {op : BinOp} {t : TypeId} {k : IntKind} {p q : Int} (h : binI op k p q = some v) (h1 : op ≠ .shl) (h2 : op ≠ .shr) :
  ∃ cv, (binOp op t (.int k p) (.int k q)).run P w = .ok cv w ∧ VR μ Z w n v cv := by
 cases op <;> simp only [binI, Option.some.injEq, reduceCtorEq] at h <;> try (exact absurd rfl h1) <;> try (exact absurd rfl h2)
 case add => subst h; exact ⟨_, by simp [binOp, Op.intArith], .int _ _⟩
 case sub => subst h; exact ⟨_, by simp [binOp, Op.intArith], .int _ _⟩
 case mul => subst h; exact ⟨_, by simp [binOp, Op.intArith], .int _ _⟩
 case quo =>
  split at h
  ·cases h
  ·cases h; rename_i hz; exact ⟨_, by simp [binOp, Op.intDiv, hz], .int _ _⟩
 case rem =>
  split at h
  ·cases h
  ·cases h; rename_i hz; exact ⟨_, by simp [binOp, Op.intDiv, hz], .int _ _⟩
 case and => subst h; exact ⟨_, by simp [binOp, Op.intBits, bitsA], .int _ _⟩
 case or => subst h; exact ⟨_, by simp [binOp, Op.intBits, bitsA], .int _ _⟩
 case xor => subst h; exact ⟨_, by simp [binOp, Op.intBits, bitsA], .int _ _⟩
 case andNot => subst h; exact ⟨_, by simp [binOp, Op.intBits, bitsA], .int _ _⟩
 case eql => subst h; exact ⟨.bool (p == q), by simp [binOp, Op.intCmp], by rw [beq_dec]; exact .bool _⟩
 case neq => subst h; exact ⟨.bool (p != q), by simp [binOp, Op.intCmp], by rw [bne, beq_dec]; exact .bool _⟩
 case lss => subst h; exact ⟨_, by simp [binOp, Op.intCmp], .bool _⟩
 case leq => subst h; exact ⟨_, by simp [binOp, Op.intCmp], .bool _⟩
 case gtr => subst h; exact ⟨_, by simp [binOp, Op.intCmp], .bool _⟩
 case geq => subst h; exact ⟨_, by simp [binOp, Op.intCmp], .bool _⟩
 all_goals cases h

theorem binS_run {op : BinOp} {t : TypeId} {p q : List UInt8} (h : binS op p q = some v) :
  ∃ cv, (binOp op t (.string ⟨p.toArray⟩) (.string ⟨q.toArray⟩)).run P w = .ok cv w ∧ VR μ Z w n v cv := by
 cases op <;> simp only [binS, Option.some.injEq, reduceCtorEq] at h <;> try (cases h; done)
 case add =>
  split at h
  ·cases h
   rename_i hle
   refine ⟨.string ⟨(p ++ q).toArray⟩, ?_, .str _⟩
   have : ¬ (IntKind.i64.max < ((p.length + q.length : Nat) : Int)) := by
    have : IntKind.i64.max = 9223372036854775807 := by decide
    omega
   simp only [binOp, Op.stringOp]
   rw [if_neg (by simpa [ByteArray.size] using this)]
   simp [ByteArray.mk_append_mk]
  ·cases h
 case eql => subst h; exact ⟨_, by simp [binOp, Op.stringOp]; rfl, by rw [← beq_dec]; exact .bool _⟩
 case neq => subst h; exact ⟨_, by simp [binOp, Op.stringOp]; rfl, by rw [← beq_dec]; exact .bool _⟩
 case lss => subst h; exact ⟨_, by simp [binOp, Op.stringOp]; rfl, .bool _⟩
 case leq => subst h; exact ⟨_, by simp [binOp, Op.stringOp]; rfl, by rw [← beq_dec]; exact .bool _⟩
 case gtr => subst h; exact ⟨.bool (!(strLess p q || p == q)), by simp [binOp, Op.stringOp, strLess], by rw [← beq_dec]; exact .bool _⟩
 case geq => subst h; exact ⟨_, by simp [binOp, Op.stringOp]; rfl, .bool _⟩

end
end Go.Av
end

section
set_option linter.unusedSimpArgs false
set_option linter.unusedVariables false
namespace Go.Av
open Go.RowKit

theorem flat_cons (x : AV) (l : List AV) : flat (x :: l) = x.cells ++ flat l := by simp [flat]
theorem flat_append (l l' : List AV) : flat (l ++ l') = flat l ++ flat l' := by simp [flat]
theorem flat_length {sz : Nat} : ∀ {l : List AV}, (∀ e, e ∈ l → e.cells.length = sz) → (flat l).length = l.length * sz
 | [], _ => by simp [flat]
 | x :: l, h => by
  rw [flat_cons, List.length_append, h x (by simp), flat_length (fun e he => h e (by simp [he])), List.length_cons, Nat.add_mul]; omega
theorem flat_take {sz : Nat} : ∀ {l : List AV} (k : Nat), (∀ e, e ∈ l → e.cells.length = sz) → flat (l.take k) = (flat l).take (k * sz)
 | [], k, _ => by simp [flat]
 | x :: l, 0, _ => by simp [flat]
 | x :: l, k + 1, h => by
  have hx := h x (by simp)
  rw [List.take_succ_cons, flat_cons, flat_cons, flat_take k (fun e he => h e (by simp [he])), Nat.add_mul, Nat.one_mul, Nat.add_comm, ← hx]
  rw [List.take_append]
  simp
  rw [List.take_of_length_le (Nat.le_add_right _ _)]
theorem flat_drop {sz : Nat} : ∀ {l : List AV} (k : Nat), (∀ e, e ∈ l → e.cells.length = sz) → flat (l.drop k) = (flat l).drop (k * sz)
 | [], k, _ => by simp [flat]
 | x :: l, 0, _ => by simp [flat]
 | x :: l, k + 1, h => by
  have hx := h x (by simp)
  rw [List.drop_succ_cons, flat_cons, flat_drop k (fun e he => h e (by simp [he])), Nat.add_mul, Nat.one_mul, Nat.add_comm, ← hx, List.drop_append]
  simp
theorem flat_get {sz : Nat} {l : List AV} (h : ∀ e, e ∈ l → e.cells.length = sz) {k j : Nat} (hk : k < l.length) (hj : j < sz) : (flat l)[k * sz + j]? = (l.getD k .undef).cells[j]? := by
 have h1 : flat l = flat (l.take k) ++ flat (l.drop k) := by rw [← flat_append, List.take_append_drop]
 have h2 : (flat (l.take k)).length = k * sz := by
  rw [flat_length (sz := sz) (fun e he => h e (List.mem_of_mem_take he)), List.length_take, Nat.min_eq_left (by omega)]
 rw [h1, List.getElem?_append_right (by omega), h2, Nat.add_sub_cancel_left]
 have h3 : l.drop k = l[k] :: l.drop (k + 1) := List.drop_eq_getElem_cons hk
 rw [h3, flat_cons, List.getElem?_append_left (by rw [h _ (List.getElem_mem hk)]; exact hj)]
 simp [List.getD, hk]

/-- A cut of a slice. -/
def cutTail (l h len : Nat) (mx : Option Nat) (tl : Tail) : Tail :=
 if l = h then (match mx with | some m => if m = h then .full else .none | none => if h = len then (match tl with | .full => .full | _ => .none) else .none)
 else match mx with
  | some m => if m = h then .full else .none
  | none => if h = len then tl else .none

def bnd (d : Nat) : Option AV → Option Nat
 | none => some d
 | some (.int _ n) => if 0 ≤ n then some n.toNat else none
 | some _ => none

def sliceA (P : Program) (t : TypeId) (x : AV) (lo hi mx : Option AV) : Option AV :=
 match tyA P t with
 | some ti => match x, ti.kind with
  | .str s, .str => match bnd 0 lo, bnd s.length hi with
   | some l, some h => if l ≤ h ∧ h ≤ s.length ∧ mx.isNone = true then some (.str ((s.take h).drop l)) else none
   | _, _ => none
  | .dl sz es tl, .slice e => match tyA P e with
   | some te => match bnd 0 lo, bnd es.length hi with
    | some l, some h => match mx with
     | none => if l ≤ h ∧ h ≤ es.length ∧ (sz = te.size ∨ es.length = 0) then some (.dl sz ((es.take h).drop l) (cutTail l h es.length none tl)) else none
     | some m' => match bnd 0 (some m') with
      | some m => if l ≤ h ∧ h ≤ m ∧ m ≤ es.length ∧ hi.isSome = true ∧ (sz = te.size ∨ es.length = 0) then some (.dl sz ((es.take h).drop l) (cutTail l h es.length (some m) tl)) else none
      | none => none
    | _, _ => none
   | none => none
  | .sl sz id off len, .slice e => match tyA P e with
   | some te => match bnd 0 lo, bnd len hi with
    | some l, some h => if l ≤ h ∧ h ≤ len ∧ sz = te.size ∧ mx.isNone = true then (if l = h ∧ l ≠ 0 then some (.dl sz [] .none) else some (.sl sz id (off + l * sz) (h - l))) else none
    | _, _ => none
   | none => none
  | _, _ => none
 | none => none

def fillA (place : Nat → Option (Nat × Nat)) (cells : List AV) : List (Nat × AV) → Option (List AV)
 | [] => some cells
 | (i, v) :: rest =>
  match place i, v with
  | some _, .undef => none
  | some (off, size), v => if v.cells.length = size ∧ off + size ≤ cells.length then fillA place (cells.take off ++ v.cells ++ cells.drop (off + size)) rest else none
  | none, _ => none

/-- Where the parts of a type lie. -/
def placeA (P : Program) : TK → Nat → Option (Nat × Nat)
 | .struct fs, i => match fs[i]? with
  | some (off, ft) => (tyA P ft).map fun j => (off, j.size)
  | none => none
 | .array _ e, i => (tyA P e).map fun j => (i * j.size, j.size)
 | _, _ => none

def allTy (P : Program) : TK → Bool
 | .struct fs => fs.all fun f => (tyA P f.2).isSome
 | .array _ e => (tyA P e).isSome
 | _ => false

def buildA (P : Program) (t : TypeId) (parts : List (Nat × AV)) : Option AV :=
 match tyA P t with
 | some ti => match ti.zero with
  | some (.agg z) => if allTy P ti.kind then (fillA (placeA P ti.kind) z parts).map .agg else none
  | _ => none
 | none => none

def lenA (P : Program) (H : AHeap) (t : TypeId) (x : AV) : Option AV :=
 match tyA P t with
 | some ti => match ti.kind, x with
  | .str, .str s => some (.int .i64 s.length)
  | .slice _, .dl _ es _ => some (.int .i64 es.length)
  | .slice _, .sl _ _ _ len => some (.int .i64 len)
  | .map _ _, .map none => some (.int .i64 0)
  | .map _ _, .map (some id) => match H[id]? with
   | some (.map es _) => some (.int .i64 es.length)
   | _ => none
  | .array n _, _ => some (.int .i64 n)
  | _, _ => none
 | none => none

def minA : AV → AV → Option AV
 | .int k x, .int k' y => if k = k' then some (.int k (if y < x then y else x)) else none
 | _, _ => none
def maxA : AV → AV → Option AV
 | .int k x, .int k' y => if k = k' then some (.int k (if y > x then y else x)) else none
 | _, _ => none

def capA (P : Program) (t : TypeId) (x : AV) : Option AV :=
 match tyA P t with
 | some ti => match ti.kind, x with
  | .slice _, .dl _ es .full => some (.int .i64 es.length)
  | _, _ => none
 | none => none

def biA (P : Program) (H : AHeap) (a : List AV) (c : Call) : Option AV :=
 match c.callee, c.args.toList, c.argTypes.toList with
 | .builtin .len, [x], [t] => lenA P H t (ev a x)
 | .builtin .cap, [x], [t] => capA P t (ev a x)
 | .builtin .min, [x, y], _ => minA (ev a x) (ev a y)
 | .builtin .max, [x, y], _ => maxA (ev a x) (ev a y)
 | _, _, _ => none

/-- What an operation that writes nothing comes to. -/
def pureA (P : Program) (H : AHeap) (a : List AV) : Op → Option AV
 | .move x => some (ev a x)
 | .assign x => some (ev a x)
 | .pick c x y => pickA (ev a c) (ev a x) (ev a y)
 | .binOp op t x y _ => binA P op t (ev a x) (ev a y)
 | .unOp op _ x => unA op (ev a x)
 | .convert s d x => convA P s d (ev a x)
 | .makeFunc (.func k) first cap => some (.fn (.func k) (first.toList.map (ev a)) (cap.toList.map (ev a)))
 | .fieldAddr s x f => fieldAddrA P s (ev a x) f
 | .field t x f => fieldA P t (ev a x) f
 | .indexAddr t x i => indexAddrA P t (ev a x) (ev a i)
 | .index t x i => indexA P t (ev a x) (ev a i)
 | .slice t x lo hi mx => sliceA P t (ev a x) (lo.map (ev a)) (hi.map (ev a)) (mx.map (ev a))
 | .extract x i => extractA (ev a x) i
 | .nilCheck x => nilCheckA (ev a x)
 | .build t parts => buildA P t (parts.toList.map fun p => (p.1, ev a p.2))
 | .load t x => (cellsAt H (ev a x)).bind (loadA P t)
 | .call c => biA P H a c
 | _ => none
end Go.Av
end
