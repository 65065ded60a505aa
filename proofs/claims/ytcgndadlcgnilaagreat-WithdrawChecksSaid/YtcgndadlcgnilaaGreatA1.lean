/- For all receipts made from numbers, these with up to two parts changed, and proofs, also with one changed, left out or added, Check agrees with the reference and accepts receipts with their own proofs (WithdrawChecks), for every input, with no further condition. This text begins the layer over the model on which the proof rests. -/
import Derived.CallsIn
import Derived.RangeFuncLeaves
import Derived.Below
import Derived.Laws.World
import Derived.Laws.Rows
import Derived.Laws.Entries
import Derived.Laws.Cells
import Derived.Laws.Append
import Derived.Laws.CopyRow
set_option autoImplicit false
set_option linter.unusedSimpArgs false
set_option linter.unusedVariables false
set_option linter.unnecessarySimpa false
section
namespace Go.Av
open Go.RowKit

/-- What is known of a frozen slice's end: nothing · its capacity is its length · the token that owns the places behind it. -/
inductive Tail where
 | none
 | full
 | tok (t : Nat)
 deriving DecidableEq, Inhabited

/-- Abstract values: data that nobody writes any more are held in the value itself. -/
inductive AV where
 | undef
 | bool (b : Bool)
 | int (k : IntKind) (n : Int)
 | str (s : List UInt8)
 | nilp
 | ptr (id off : Nat)
 | dp (cells : List AV) (off : Nat)
 | dl (sz : Nat) (elems : List AV) (tl : Tail)
 | sl (sz id off len : Nat)
 | agg (cells : List AV)
 | tup (vs : List AV)
 | fn (f : Fn) (first captured : List AV)
 | nilfn
 | map (id : Option Nat)
 | nilif
 | iface (t : TypeId) (v : AV)
 deriving Inhabited

def AV.cells : AV → List AV
 | .agg cs => cs
 | v => [v]

def flat (l : List AV) : List AV := l.flatMap AV.cells

/-- The cells l lie at c, from o on, and nobody writes them: the data part. -/
def TailR (μ : Nat → Nat × Nat) (w : World) (n c o sz len cap : Nat) : Tail → Prop
 | .none => True
 | .full => cap = len
 | .tok t => t < n ∧ μ t = (c, o + len * sz) ∧ 0 < sz ∧ ∃ e N, w.shape? c = some (e, N) ∧ o + cap * sz ≤ N

section
variable (μ : Nat → Nat × Nat) (Z : Nat → Nat → Prop) (w : World) (n : Nat)

/-- An abstract value stands for a value of the model's. -/
inductive VR : AV → Value → Prop
 | undef (v : Value) : VR .undef v
 | bool (b : Bool) : VR (.bool b) (.bool b)
 | int (k : IntKind) (x : Int) : VR (.int k x) (.int k x)
 | str (s : List UInt8) : VR (.str s) (.string ⟨s.toArray⟩)
 | nilp : VR .nilp (.pointer none)
 | ptr (id off : Nat) (h : id < n) : VR (.ptr id off) (.pointer (some ⟨(μ id).1, (μ id).2 + off, none⟩))
 | dp (cells : List AV) (off c o : Nat) (f : Nat → Value)
   (h1 : ∀ j v, cells[j]? = some v → w.cell? ⟨c, o + j, none⟩ = some (f j)) (h2 : ∀ j, j < cells.length → Z c (o + j))
   (h3 : ∀ j v, cells[j]? = some v → VR v (f j)) (h5 : ∀ j, j < cells.length → (f j).oneCell' = true) : VR (.dp cells off) (.pointer (some ⟨c, o + off, none⟩))
 | dl0 (sz : Nat) (tl : Tail) (a : Option Addr) (cap : Nat) (h : tl = .full → cap = 0) (ht : ∀ t, tl ≠ .tok t) : VR (.dl sz [] tl) (.slice a 0 cap)
 | dl (sz : Nat) (elems : List AV) (tl : Tail) (c o cap : Nat) (f : Nat → Value)
   (hs : ∀ e, e ∈ elems → e.cells.length = sz) (hc : elems.length ≤ cap)
   (h1 : ∀ j v, (flat elems)[j]? = some v → w.cell? ⟨c, o + j, none⟩ = some (f j)) (h2 : ∀ j, j < (flat elems).length → Z c (o + j))
   (h3 : ∀ j v, (flat elems)[j]? = some v → VR v (f j)) (h5 : ∀ j, j < (flat elems).length → (f j).oneCell' = true)
   (ht : TailR μ w n c o sz elems.length cap tl) : VR (.dl sz elems tl) (.slice (some ⟨c, o, none⟩) elems.length cap)
 | sl (sz id off len cap : Nat) (h : id < n) (hc : len ≤ cap) (hsz : 0 < sz) (e N : Nat) (hN : w.shape? (μ id).1 = some (e, N)) (hcap : (μ id).2 + off + cap * sz ≤ N) :
   VR (.sl sz id off len) (.slice (some ⟨(μ id).1, (μ id).2 + off, none⟩) len cap)
 | agg (cs : List AV) (vs : Array Value) (hl : cs.length = vs.size) (f : Nat → Value)
   (h1 : ∀ j v, cs[j]? = some v → vs[j]? = some (f j)) (h2 : ∀ j v, cs[j]? = some v → VR v (f j)) : VR (.agg cs) (.agg vs)
 | tup (cs : List AV) (vs : Array Value) (hl : cs.length = vs.size) (f : Nat → Value)
   (h1 : ∀ j v, cs[j]? = some v → vs[j]? = some (f j)) (h2 : ∀ j v, cs[j]? = some v → VR v (f j)) : VR (.tup cs) (.tuple vs)
 | fn (k : Nat) (c1 c2 : List AV) (v1 v2 : Array Value) (hl1 : c1.length = v1.size) (hl2 : c2.length = v2.size) (f g : Nat → Value)
   (h1 : ∀ j v, c1[j]? = some v → v1[j]? = some (f j)) (h2 : ∀ j v, c1[j]? = some v → VR v (f j))
   (h3 : ∀ j v, c2[j]? = some v → v2[j]? = some (g j)) (h4 : ∀ j v, c2[j]? = some v → VR v (g j)) : VR (.fn (.func k) c1 c2) (.func (.func k) v1 v2)
 | yield (l : Nat) (h : l < n) : VR (.fn (.yield l) [] []) (.func (.yield (μ l).1) #[] #[])
 | nilfn : VR .nilfn .nilFunc
 | nilm : VR (.map none) (.map none)
 | map (id : Nat) (h : id < n) : VR (.map (some id)) (.map (some (μ id).1))
 | nilif : VR .nilif .nilIface
 | iface (t : TypeId) (v : AV) (v' : Value) (h : VR v v') : VR (.iface t v) (.iface t v')

/-- Lists of values, place by place. -/
def VRs (l : List AV) (vs : Array Value) : Prop := l.length = vs.size ∧ ∀ (j : Nat) (v : AV), l[j]? = some v → ∃ v', vs[j]? = some v' ∧ VR μ Z w n v v'
end

inductive AObj where
 | dead
 | cells (cs : List AV)
 | tok
 | map (es : List (AV × AV))
 | loop (env : List AV) (ps : Array Tmp) (assign body : Code) (pending : Option Code) (ready : Bool)
 deriving Inhabited

def AObj.alive : AObj → Bool
 | .dead => false
 | _ => true

abbrev AHeap := List AObj

/-- What an object's block holds. -/
def OR (B : Nat) (μ : Nat → Nat × Nat) (Z : Nat → Nat → Prop) (w : World) (n id : Nat) : AObj → Prop
 | .dead => True
 | .cells cs => B ≤ (μ id).1 ∧ (∀ o, ¬ Z (μ id).1 o) ∧ ∃ ccs e fr, w.heap[(μ id).1]? = some (.cells ccs e fr) ∧ (∀ o, o < ccs.size → w.frozen? ⟨(μ id).1, o, none⟩ = false) ∧
   (μ id).2 + cs.length ≤ ccs.size ∧ ∀ j v, cs[j]? = some v → ∃ v', ccs[(μ id).2 + j]? = some v' ∧ v'.oneCell' = true ∧ VR μ Z w n v v'
 | .tok => B ≤ (μ id).1 ∧ (∀ o, Z (μ id).1 o → o < (μ id).2) ∧ ∃ ccs e fr, w.heap[(μ id).1]? = some (.cells ccs e fr) ∧ (∀ o, o < ccs.size → w.frozen? ⟨(μ id).1, o, none⟩ = false)
 | .map es => B ≤ (μ id).1 ∧ ∃ mes clock, w.heap[(μ id).1]? = some (.map mes clock) ∧ es.length = mes.size ∧ (∀ (i : Nat) (e : MapEntry), mes[i]? = some e → e.born < clock) ∧
   (∀ (i j : Nat) (e e' : MapEntry), mes[i]? = some e → mes[j]? = some e' → e.born = e'.born → i = j) ∧
   ∀ (j : Nat) (k v : AV), es[j]? = some (k, v) → ∃ e : MapEntry, mes[j]? = some e ∧ VR μ Z w n k e.key ∧ VR μ Z w n v e.val
 | .loop env ps assign body pending ready => B ≤ (μ id).1 ∧ ∃ r : Loop, w.heap[(μ id).1]? = some (.loop r) ∧ r.state = (if ready then .ready else if pending.isSome then .done else .busy) ∧ r.pending = pending ∧
   r.params = ps ∧ r.assign = assign ∧ r.body = body ∧ VRs μ Z w n env r.tmps

structure R (B : Nat) (w0 : World) (μ : Nat → Nat × Nat) (Z : Nat → Nat → Prop) (H : AHeap) (w : World) : Prop where
 below : Below B w0 w
 hB : B ≤ w.heap.size
 zlt : ∀ c o, Z c o → c < w.heap.size
 obj : ∀ id o, H[id]? = some o → OR B μ Z w H.length id o
 inj : ∀ i j oi oj, H[i]? = some oi → H[j]? = some oj → oi.alive = true → oj.alive = true → (μ i).1 = (μ j).1 → i = j

/-- How a state may go on. -/
structure Ev (μ : Nat → Nat × Nat) (Z : Nat → Nat → Prop) (H : AHeap) (w : World) (μ' : Nat → Nat × Nat) (Z' : Nat → Nat → Prop) (H' : AHeap) (w' : World) : Prop where
 len : H.length ≤ H'.length
 mu : ∀ i, i < H.length → μ' i = μ i
 z : ∀ c o, Z c o → Z' c o
 zcell : ∀ c o, Z c o → w'.cell? ⟨c, o, none⟩ = w.cell? ⟨c, o, none⟩
 shape : ∀ c, c < w.heap.size → w'.shape? c = w.shape? c
 size : w.heap.size ≤ w'.heap.size
 frame : ∀ c, c < w.heap.size → (∀ id o, H[id]? = some o → o.alive = true → (μ id).1 ≠ c) → w'.heap[c]? = w.heap[c]?
 own : ∀ id o, H'[id]? = some o → o.alive = true → w.heap.size ≤ (μ' id).1 ∨ ∃ i oi, H[i]? = some oi ∧ oi.alive = true ∧ (μ i).1 = (μ' id).1
 znew : ∀ c o, Z' c o → Z c o ∨ w.heap.size ≤ c ∨ ∃ i oi, H[i]? = some oi ∧ oi.alive = true ∧ (μ i).1 = c

theorem Ev.refl (μ : Nat → Nat × Nat) (Z : Nat → Nat → Prop) (H : AHeap) (w : World) : Ev μ Z H w μ Z H w :=
 ⟨Nat.le_refl _, fun _ _ => rfl, fun _ _ h => h, fun _ _ _ => rfl, fun _ _ => rfl, Nat.le_refl _, fun _ _ _ => rfl, fun id o h ha => .inr ⟨id, o, h, ha, rfl⟩, fun _ _ h => .inl h⟩

section
variable {μ μ' μ'' : Nat → Nat × Nat} {Z Z' Z'' : Nat → Nat → Prop} {H H' H'' : AHeap} {w w' w'' : World} {B : Nat} {w0 : World} {n n' : Nat}

theorem shape_lt {c e N : Nat} (h : w.shape? c = some (e, N)) : c < w.heap.size := by
 unfold World.shape? at h
 rcases Nat.lt_or_ge c w.heap.size with hlt | hge
 ·exact hlt
 ·rw [Array.getElem?_eq_none hge] at h; cases h

theorem TailR.mono {c o sz len cap : Nat} {tl : Tail} (h : TailR μ w n c o sz len cap tl) (hn : n ≤ n') (hm : ∀ i, i < n → μ' i = μ i)
  (hs : ∀ c, c < w.heap.size → w'.shape? c = w.shape? c) : TailR μ' w' n' c o sz len cap tl := by
 cases tl with
 | none => trivial
 | full => exact h
 | tok t =>
  obtain ⟨h1, h2, h3, e, N, h4, h5⟩ := h
  exact ⟨Nat.lt_of_lt_of_le h1 hn, (hm t h1).trans h2, h3, e, N, (hs c (shape_lt h4)).trans h4, h5⟩

theorem VR.mono {v : AV} {cv : Value} (h : VR μ Z w n v cv) (hn : n ≤ n') (hm : ∀ i, i < n → μ' i = μ i) (hz : ∀ c o, Z c o → Z' c o)
  (hc : ∀ c o, Z c o → w'.cell? ⟨c, o, none⟩ = w.cell? ⟨c, o, none⟩) (hs : ∀ c, c < w.heap.size → w'.shape? c = w.shape? c) : VR μ' Z' w' n' v cv := by
 induction h with
 | undef v => exact .undef v
 | bool b => exact .bool b
 | int k x => exact .int k x
 | str s => exact .str s
 | nilp => exact .nilp
 | ptr id off h => rw [← hm id h]; exact .ptr id off (Nat.lt_of_lt_of_le h hn)
 | dp cells off c o f h1 h2 _ h5 ih =>
  exact .dp cells off c o f (fun j v hj => (hc _ _ (h2 j (List.getElem?_eq_some_iff.1 hj).1)).trans (h1 j v hj)) (fun j hj => hz _ _ (h2 j hj)) ih h5
 | dl0 sz tl a cap h ht => exact .dl0 sz tl a cap h ht
 | dl sz elems tl c o cap f hs' hcap h1 h2 _ h5 ht ih =>
  exact .dl sz elems tl c o cap f hs' hcap (fun j v hj => (hc _ _ (h2 j (List.getElem?_eq_some_iff.1 hj).1)).trans (h1 j v hj)) (fun j hj => hz _ _ (h2 j hj)) ih h5 (ht.mono hn hm hs)
 | sl sz id off len cap h hl hsz e N hN hcap =>
  rw [← hm id h]
  exact .sl sz id off len cap (Nat.lt_of_lt_of_le h hn) hl hsz e N (by rw [hm id h, hs _ (shape_lt hN)]; exact hN) (by rw [hm id h]; exact hcap)
 | agg cs vs hl f h1 _ ih => exact .agg cs vs hl f h1 ih
 | tup cs vs hl f h1 _ ih => exact .tup cs vs hl f h1 ih
 | fn k c1 c2 v1 v2 hl1 hl2 f g h1 _ h3 _ ih1 ih2 => exact .fn k c1 c2 v1 v2 hl1 hl2 f g h1 ih1 h3 ih2
 | yield l h => rw [← hm l h]; exact .yield l (Nat.lt_of_lt_of_le h hn)
 | nilfn => exact .nilfn
 | nilm => exact .nilm
 | map id h => rw [← hm id h]; exact .map id (Nat.lt_of_lt_of_le h hn)
 | nilif => exact .nilif
 | iface t v v' _ ih => exact .iface t v v' ih

theorem VR.ev {v : AV} {cv : Value} (h : VR μ Z w H.length v cv) (e : Ev μ Z H w μ' Z' H' w') : VR μ' Z' w' H'.length v cv := h.mono e.len e.mu e.z e.zcell e.shape
theorem VRs.mono {l : List AV} {vs : Array Value} (h : VRs μ Z w n l vs) (hn : n ≤ n') (hm : ∀ i, i < n → μ' i = μ i) (hz : ∀ c o, Z c o → Z' c o)
  (hc : ∀ c o, Z c o → w'.cell? ⟨c, o, none⟩ = w.cell? ⟨c, o, none⟩) (hs : ∀ c, c < w.heap.size → w'.shape? c = w.shape? c) : VRs μ' Z' w' n' l vs :=
 ⟨h.1, fun j v hj => let ⟨v', h1, h2⟩ := h.2 j v hj; ⟨v', h1, h2.mono hn hm hz hc hs⟩⟩
theorem VRs.ev {l : List AV} {vs : Array Value} (h : VRs μ Z w H.length l vs) (e : Ev μ Z H w μ' Z' H' w') : VRs μ' Z' w' H'.length l vs := h.mono e.len e.mu e.z e.zcell e.shape

theorem Ev.trans (h : Ev μ Z H w μ' Z' H' w') (k : Ev μ' Z' H' w' μ'' Z'' H'' w'') : Ev μ Z H w μ'' Z'' H'' w'' where
 len := Nat.le_trans h.len k.len
 mu i hi := (k.mu i (Nat.lt_of_lt_of_le hi h.len)).trans (h.mu i hi)
 z c o hz := k.z c o (h.z c o hz)
 zcell c o hz := (k.zcell c o (h.z c o hz)).trans (h.zcell c o hz)
 shape c hc := (k.shape c (Nat.lt_of_lt_of_le hc h.size)).trans (h.shape c hc)
 size := Nat.le_trans h.size k.size
 frame c hc hu := by
  refine (k.frame c (Nat.lt_of_lt_of_le hc h.size) ?_).trans (h.frame c hc hu)
  intro id o hid ha e
  rcases h.own id o hid ha with h1 | ⟨i, oi, h1, h2, h3⟩
  ·omega
  ·exact hu i oi h1 h2 (h3.trans e)
 own id o hid ha := by
  rcases k.own id o hid ha with h1 | ⟨i, oi, h1, h2, h3⟩
  ·exact .inl (Nat.le_trans h.size h1)
  ·rcases h.own i oi h1 h2 with h4 | ⟨j, oj, h4, h5, h6⟩
   ·exact .inl (by omega)
   ·exact .inr ⟨j, oj, h4, h5, h6.trans h3⟩
 znew c o hz := by
  rcases k.znew c o hz with h1 | h1 | ⟨i, oi, h1, h2, h3⟩
  ·exact h.znew c o h1
  ·exact .inr (.inl (Nat.le_trans h.size h1))
  ·rcases h.own i oi h1 h2 with h4 | ⟨j, oj, h4, h5, h6⟩
   ·exact .inr (.inl (by omega))
   ·exact .inr (.inr ⟨j, oj, h4, h5, h6.trans h3⟩)
end
end Go.Av
end
