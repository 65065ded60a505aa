/- the layer over the model, part 4 -/
import Derived.Laws.StructEq
import Derived.Laws.Strings
import Derived.Laws.Strings2
import Derived.Laws.Concat
import Derived.Test.YtcgndadlcgnilaaGreatA3
set_option autoImplicit false
set_option linter.unusedSimpArgs false
set_option linter.unusedVariables false
set_option linter.unnecessarySimpa false
section
set_option linter.unusedSimpArgs false
set_option linter.unusedVariables false
namespace Go.Av
open Go.RowKit

def bitsA (op : BinOp) (k : IntKind) (x y : Int) : Int :=
 match op with
 | .and => k.wrap (BitVec.ofInt k.bits x &&& BitVec.ofInt k.bits y).toNat
 | .or => k.wrap (BitVec.ofInt k.bits x ||| BitVec.ofInt k.bits y).toNat
 | .xor => k.wrap (BitVec.ofInt k.bits x ^^^ BitVec.ofInt k.bits y).toNat
 | _ => k.wrap (BitVec.ofInt k.bits x &&& ~~~BitVec.ofInt k.bits y).toNat

def binI (op : BinOp) (k : IntKind) (a b : Int) : Option AV :=
 match op with
 | .add => some (.int k (k.wrap (a + b)))
 | .sub => some (.int k (k.wrap (a - b)))
 | .mul => some (.int k (k.wrap (a * b)))
 | .quo => if b = 0 then none else some (.int k (k.wrap (a.tdiv b)))
 | .rem => if b = 0 then none else some (.int k (a.tmod b))
 | .and => some (.int k (bitsA .and k a b))
 | .or => some (.int k (bitsA .or k a b))
 | .xor => some (.int k (bitsA .xor k a b))
 | .andNot => some (.int k (bitsA .andNot k a b))
 | .eql => some (.bool (decide (a = b)))
 | .neq => some (.bool (!decide (a = b)))
 | .lss => some (.bool (decide (a < b)))
 | .leq => some (.bool (decide (a ≤ b)))
 | .gtr => some (.bool (decide (b < a)))
 | .geq => some (.bool (decide (b ≤ a)))
 | _ => none

def strLess : List UInt8 → List UInt8 → Bool := Op.bytesLess

def binS (op : BinOp) (a b : List UInt8) : Option AV :=
 match op with
 | .add => if a.length + b.length ≤ 9223372036854775807 then some (.str (a ++ b)) else none
 | .eql => some (.bool (decide (a = b)))
 | .neq => some (.bool (!decide (a = b)))
 | .lss => some (.bool (strLess a b))
 | .leq => some (.bool (strLess a b || decide (a = b)))
 | .gtr => some (.bool (!(strLess a b || decide (a = b))))
 | .geq => some (.bool (!strLess a b))
 | _ => none

def isK (P : Program) (t : TypeId) (p : TK → Bool) : Bool := match tyA P t with | some i => p i.kind | none => false

def isBoolK : TK → Bool | .bool => true | _ => false
def isPtrK : TK → Bool | .ptr => true | _ => false
def isFuncK : TK → Bool | .func => true | _ => false

def shlI (k : IntKind) (a b : Int) : Option AV := if b < 0 then none else some (.int k (k.wrap (a * 2 ^ min b.toNat k.bits)))
def shrI (k : IntKind) (a b : Int) : Option AV := if b < 0 then none else some (.int k (a.fdiv (2 ^ min b.toNat k.bits)))

def binA (P : Program) (op : BinOp) (t : TypeId) (x y : AV) : Option AV :=
 match x, y with
 | .int k a, .int k' b => match op with
  | .shl => shlI k a b
  | .shr => shrI k a b
  | op => if k = k' then binI op k a b else none
 | .str a, .str b => binS op a b
 | .bool a, .bool b => if isK P t isBoolK then (match op with | .eql => some (.bool (a == b)) | .neq => some (.bool (!(a == b))) | _ => none) else none
 | .nilp, .nilp => if isK P t isPtrK then (match op with | .eql => some (.bool true) | .neq => some (.bool false) | _ => none) else none
 | .nilp, .ptr _ _ => if isK P t isPtrK then (match op with | .eql => some (.bool false) | .neq => some (.bool true) | _ => none) else none
 | .ptr _ _, .nilp => if isK P t isPtrK then (match op with | .eql => some (.bool false) | .neq => some (.bool true) | _ => none) else none
 | .nilfn, .nilfn => if isK P t isFuncK then (match op with | .eql => some (.bool true) | .neq => some (.bool false) | _ => none) else none
 | .fn _ _ _, .nilfn => if isK P t isFuncK then (match op with | .eql => some (.bool false) | .neq => some (.bool true) | _ => none) else none
 | _, _ => none

def unA (op : UnOp) (x : AV) : Option AV :=
 match op, x with
 | .neg, .int k n => some (.int k (k.wrap (0 - n)))
 | .xor, .int k n => some (.int k (bitsA .xor k (if k.signed then -1 else k.max) n))
 | .not, .bool b => some (.bool (!b))
 | _, _ => none

/-- The numbers of a list of bytes. -/
def allU8 : List AV → Option (List Int)
 | [] => some []
 | .int .u8 n :: l => (allU8 l).map (n :: ·)
 | _ => none
def strOf (l : List Int) : List UInt8 := l.map fun n => UInt8.ofNat n.toNat

def convA (P : Program) (src dst : TypeId) (x : AV) : Option AV :=
 match tyA P src, tyA P dst with
 | some i, some j => match j.kind, x with
  | .int k, .int _ n => some (.int k (k.wrap n))
  | .str, .str s => some (.str s)
  | .str, .dl sz es _ => match i.kind with
   | .slice e => if isK P e (fun | .int .u8 => true | _ => false) && (sz == 1 || es.isEmpty) then (allU8 es).map fun l => .str (strOf l) else none
   | _ => none
  | _, _ => none
 | _, _ => none

/-- An address, some cells on. -/
def plus (x : AV) (k : Nat) : Option AV :=
 match x with
 | .ptr id o => some (.ptr id (o + k))
 | .dp cs o => some (.dp cs (o + k))
 | _ => none

def fieldAddrA (P : Program) (s : TypeId) (x : AV) (f : Nat) : Option AV :=
 match tyA P s with
 | some i => match i.kind with
  | .struct fs => match fs[f]? with
   | some (off, ft) => match tyA P ft with
    | some j => if j.size = 0 then none else plus x off
    | none => none
   | none => none
  | _ => none
 | none => none

def fieldA (P : Program) (t : TypeId) (x : AV) (f : Nat) : Option AV :=
 match tyA P t with
 | some i => match i.kind, x with
  | .struct fs, .agg cs => match fs[f]? with
   | some (off, ft) => loadA P ft (cs.drop off)
   | none => none
  | _, _ => none
 | none => none

def indexAddrA (P : Program) (t : TypeId) (x i : AV) : Option AV :=
 match tyA P t, i with
 | some ti, .int _ n => match ti.kind with
  | .slice e => match tyA P e with
   | some te => match x with
    | .dl sz es _ => if 0 ≤ n ∧ n < es.length ∧ sz = te.size then some (.dp (es.getD n.toNat .undef).cells 0) else none
    | .sl sz id off len => if 0 ≤ n ∧ n < len ∧ sz = te.size then some (.ptr id (off + n.toNat * sz)) else none
    | _ => none
   | none => none
  | .array m e => match tyA P e with
   | some te => if 0 ≤ n ∧ n < m then plus x (n.toNat * te.size) else none
   | none => none
  | _ => none
 | _, _ => none

def indexA (P : Program) (t : TypeId) (x i : AV) : Option AV :=
 match tyA P t, i with
 | some ti, .int _ n => match ti.kind, x with
  | .str, .str s => if 0 ≤ n ∧ n < s.length then some (.int .u8 ((s.getD n.toNat 0).toNat : Int)) else none
  | .array m e, .agg cs => match tyA P e with
   | some te => if 0 ≤ n ∧ n < m then loadA P e (cs.drop (n.toNat * te.size)) else none
   | none => none
  | _, _ => none
 | _, _ => none

def extractA (x : AV) (i : Nat) : Option AV :=
 match x with
 | .tup vs => vs[i]?
 | _ => none

def nilCheckA (x : AV) : Option AV :=
 match x with
 | .ptr id o => some (.ptr id o)
 | .dp cs o => some (.dp cs o)
 | .fn f a b => some (.fn f a b)
 | _ => none

def pickA (c x y : AV) : Option AV :=
 match c with
 | .bool b => some (bif b then x else y)
 | _ => none

section
variable {P : Program} {B : Nat} {w0 : World} {a : List AV} {H : AHeap} {μ : Nat → Nat × Nat} {Z : Nat → Nat → Prop} {w : World} {n : Nat}
variable {x y v : AV} {cx cy : Value}

theorem toListMk (l : List UInt8) : (⟨l.toArray⟩ : ByteArray).toList = l := ByteArray.toList_mk l

theorem beq_dec {α : Type} [BEq α] [LawfulBEq α] [DecidableEq α] (a b : α) : (a == b) = decide (a = b) := by
 rw [Bool.eq_iff_iff]; simp

theorem isK_spec {t : TypeId} {p : TK → Bool} (h : isK P t p = true) : ∃ i, tyA P t = some i ∧ p i.kind = true := by
 unfold isK at h
 split at h
 ·exact ⟨_, ‹_›, h⟩
 ·cases h

theorem eqGuard_ok {op : BinOp} {t : TypeId} {ox oy : Operand} {p q : Value} (h : (∀ c, p ≠ .agg c) ∧ p ≠ .nilIface) : (eqGuard op t ox oy p q).run P w = .ok () w := by
 unfold eqGuard
 cases p <;> cases q <;> cases op <;> simp_all [pure, Sem.run]

theorem binI_run {op : BinOp} {t : TypeId} {k : IntKind} {p q : Int} (h : binI op k p q = some v) (h1 : op ≠ .shl) (h2 : op ≠ .shr) :
  ∃ cv, (binOp op t (.int k p) (.int k q)).run P w = .ok cv w ∧ VR μ Z w n v cv := by
 cases op <;> simp only [binI, Option.some.injEq, reduceCtorEq] at h <;> try (exact absurd rfl h1) <;> try (exact absurd rfl h2)
 case add => subst h; exact ⟨_, by simp [binOp, Op.intArith], .int _ _⟩
 case sub => subst h; exact ⟨_, by simp [binOp, Op.intArith], .int _ _⟩
 case mul => subst h; exact ⟨_, by simp [binOp, Op.intArith], .int _ _⟩
 case quo =>
  split at h
  ·cases h
  ·cases h; rename_i hz; exact ⟨_, by simp [binOp, Op.intDiv, hz], .int _ _⟩
 case rem =>
  split at h
  ·cases h
  ·cases h; rename_i hz; exact ⟨_, by simp [binOp, Op.intDiv, hz], .int _ _⟩
 case and => subst h; exact ⟨_, by simp [binOp, Op.intBits, bitsA], .int _ _⟩
 case or => subst h; exact ⟨_, by simp [binOp, Op.intBits, bitsA], .int _ _⟩
 case xor => subst h; exact ⟨_, by simp [binOp, Op.intBits, bitsA], .int _ _⟩
 case andNot => subst h; exact ⟨_, by simp [binOp, Op.intBits, bitsA], .int _ _⟩
 case eql => subst h; exact ⟨.bool (p == q), by simp [binOp, Op.intCmp], by rw [beq_dec]; exact .bool _⟩
 case neq => subst h; exact ⟨.bool (p != q), by simp [binOp, Op.intCmp], by rw [bne, beq_dec]; exact .bool _⟩
 case lss => subst h; exact ⟨_, by simp [binOp, Op.intCmp], .bool _⟩
 case leq => subst h; exact ⟨_, by simp [binOp, Op.intCmp], .bool _⟩
 case gtr => subst h; exact ⟨_, by simp [binOp, Op.intCmp], .bool _⟩
 case geq => subst h; exact ⟨_, by simp [binOp, Op.intCmp], .bool _⟩
 all_goals cases h

theorem binS_run {op : BinOp} {t : TypeId} {p q : List UInt8} (h : binS op p q = some v) :
  ∃ cv, (binOp op t (.string ⟨p.toArray⟩) (.string ⟨q.toArray⟩)).run P w = .ok cv w ∧ VR μ Z w n v cv := by
 cases op <;> simp only [binS, Option.some.injEq, reduceCtorEq] at h <;> try (cases h; done)
 case add =>
  split at h
  ·cases h
   rename_i hle
   refine ⟨.string ⟨(p ++ q).toArray⟩, ?_, .str _⟩
   have : ¬ (IntKind.i64.max < ((p.length + q.length : Nat) : Int)) := by
    have : IntKind.i64.max = 9223372036854775807 := by decide
    omega
   simp only [binOp, Op.stringOp]
   rw [if_neg (by simpa [ByteArray.size] using this)]
   simp [ByteArray.mk_append_mk]
  ·cases h
 case eql => subst h; exact ⟨_, by simp [binOp, Op.stringOp]; rfl, by rw [← beq_dec]; exact .bool _⟩
 case neq => subst h; exact ⟨_, by simp [binOp, Op.stringOp]; rfl, by rw [← beq_dec]; exact .bool _⟩
 case lss => subst h; exact ⟨_, by simp [binOp, Op.stringOp]; rfl, .bool _⟩
 case leq => subst h; exact ⟨_, by simp [binOp, Op.stringOp]; rfl, by rw [← beq_dec]; exact .bool _⟩
 case gtr => subst h; exact ⟨.bool (!(strLess p q || p == q)), by simp [binOp, Op.stringOp, strLess], by rw [← beq_dec]; exact .bool _⟩
 case geq => subst h; exact ⟨_, by simp [binOp, Op.stringOp]; rfl, .bool _⟩

end
end Go.Av
end
