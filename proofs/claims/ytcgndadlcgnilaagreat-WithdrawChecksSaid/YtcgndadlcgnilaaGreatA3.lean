/- the layer over the model, part 3 -/
import Derived.Test.YtcgndadlcgnilaaGreatA2
set_option autoImplicit false
set_option linter.unusedSimpArgs false
set_option linter.unusedVariables false
set_option linter.unnecessarySimpa false
section
namespace Go.Av
open Go.RowKit

inductive TK where
 | bool | int (k : IntKind) | str | ptr | slice (e : TypeId) | array (n : Nat) (e : TypeId) | struct (fs : List (Nat × TypeId)) | map (k e : TypeId) | func | iface | other
 deriving Inhabited

structure TyA where
 kind : TK
 size : Nat
 bytes : Nat
 zero : Option AV
 deriving Inhabited

def kindOf : TypeDesc → TK
 | .bool => .bool
 | .int k => .int k
 | .string => .str
 | .pointer _ => .ptr
 | .slice e => .slice e
 | .array n e => .array n e
 | .struct fs => .struct (fs.toList.map fun f => (f.offset, f.type))
 | .map k e => .map k e
 | .func _ _ _ => .func
 | .interface _ => .iface
 | _ => .other

/-- What the operations ask of a type. -/
def tyA (P : Program) (t : TypeId) : Option TyA :=
 match P.info? t, P.underlying t with
 | some i, some d => some { kind := kindOf d, size := i.size, bytes := i.bytes, zero := i.zero.map ofVal }
 | _, _ => none

def isAggK : TK → Bool
 | .struct _ => true
 | .array _ _ => true
 | _ => false

section
variable {P : Program} {w : World} {t : TypeId} {i : TyA}

theorem tyA_spec (h : tyA P t = some i) : ∃ inf d, P.info? t = some inf ∧ P.underlying t = some d ∧ i.kind = kindOf d ∧ i.size = inf.size ∧ i.bytes = inf.bytes ∧ i.zero = inf.zero.map ofVal := by
 unfold tyA at h
 split at h
 ·rename_i inf d h1 h2
  cases h
  exact ⟨inf, d, h1, h2, rfl, rfl, rfl, rfl⟩
 ·cases h

theorem run_und {d : TypeDesc} (h : P.underlying t = some d) : (underlying t).run P w = .ok d w := run_underlying h w
theorem run_typeInfo' {inf : TypeInfo} (h : P.info? t = some inf) : (typeInfo t).run P w = .ok inf w := by
 simp [typeInfo, h]
theorem run_sizeOf' (h : tyA P t = some i) : (sizeOf t).run P w = .ok i.size w := by
 obtain ⟨inf, d, h1, _, _, h4, _⟩ := tyA_spec h
 simp [sizeOf, run_typeInfo' h1, h4]
theorem run_isAgg' (h : tyA P t = some i) : (isAgg t).run P w = .ok (isAggK i.kind) w := by
 obtain ⟨inf, d, _, h2, h3, _⟩ := tyA_spec h
 rw [h3]
 cases d <;> simp [isAgg, run_und h2, isAggK, kindOf]
theorem kind_slice {e : TypeId} (h : tyA P t = some i) (hk : i.kind = .slice e) : P.underlying t = some (.slice e) := by
 obtain ⟨inf, d, _, h2, h3, _⟩ := tyA_spec h
 rw [hk] at h3
 cases d <;> simp [kindOf] at h3
 subst h3; exact h2
theorem kind_array {n : Nat} {e : TypeId} (h : tyA P t = some i) (hk : i.kind = .array n e) : P.underlying t = some (.array n e) := by
 obtain ⟨inf, d, _, h2, h3, _⟩ := tyA_spec h
 rw [hk] at h3
 cases d <;> simp [kindOf] at h3
 obtain ⟨rfl, rfl⟩ := h3; exact h2
theorem kind_struct {fs : List (Nat × TypeId)} (h : tyA P t = some i) (hk : i.kind = .struct fs) : ∃ gs : Array Field, P.underlying t = some (.struct gs) ∧ gs.toList.map (fun f => (f.offset, f.type)) = fs := by
 obtain ⟨inf, d, _, h2, h3, _⟩ := tyA_spec h
 rw [hk] at h3
 cases d <;> simp [kindOf] at h3
 rename_i gs
 exact ⟨gs, h2, h3.symm⟩
theorem kind_int {k : IntKind} (h : tyA P t = some i) (hk : i.kind = .int k) : P.underlying t = some (.int k) := by
 obtain ⟨inf, d, _, h2, h3, _⟩ := tyA_spec h
 rw [hk] at h3
 cases d <;> simp [kindOf] at h3
 subst h3; exact h2
theorem kind_str (h : tyA P t = some i) (hk : i.kind = .str) : P.underlying t = some .string := by
 obtain ⟨inf, d, _, h2, h3, _⟩ := tyA_spec h
 rw [hk] at h3
 cases d <;> simp [kindOf] at h3
 exact h2
theorem kind_bool (h : tyA P t = some i) (hk : i.kind = .bool) : P.underlying t = some .bool := by
 obtain ⟨inf, d, _, h2, h3, _⟩ := tyA_spec h
 rw [hk] at h3
 cases d <;> simp [kindOf] at h3
 exact h2
theorem kind_map {k e : TypeId} (h : tyA P t = some i) (hk : i.kind = .map k e) : P.underlying t = some (.map k e) := by
 obtain ⟨inf, d, _, h2, h3, _⟩ := tyA_spec h
 rw [hk] at h3
 cases d <;> simp [kindOf] at h3
 obtain ⟨rfl, rfl⟩ := h3; exact h2
theorem kind_ptr (h : tyA P t = some i) (hk : i.kind = .ptr) : ∃ e, P.underlying t = some (.pointer e) := by
 obtain ⟨inf, d, _, h2, h3, _⟩ := tyA_spec h
 rw [hk] at h3
 cases d <;> simp [kindOf] at h3
 exact ⟨_, h2⟩
theorem kind_func (h : tyA P t = some i) (hk : i.kind = .func) : ∃ x y z, P.underlying t = some (.func x y z) := by
 obtain ⟨inf, d, _, h2, h3, _⟩ := tyA_spec h
 rw [hk] at h3
 cases d <;> simp [kindOf] at h3
 exact ⟨_, _, _, h2⟩
theorem zero_some {z : AV} (h : tyA P t = some i) (hz : i.zero = some z) : ∃ (inf : TypeInfo) (zv : Value), P.info? t = some inf ∧ inf.zero = some zv ∧ z = ofVal zv ∧ (zeroValue t).run P w = .ok zv w := by
 obtain ⟨inf, d, h1, _, _, _, _, h6⟩ := tyA_spec h
 rw [hz] at h6
 cases hv : inf.zero with
 | none => rw [hv] at h6; cases h6
 | some zv =>
  rw [hv] at h6
  simp at h6
  exact ⟨inf, zv, h1, hv, h6, by simp [zeroValue, run_typeInfo' h1, hv]⟩
end

/-- A variable of type t out of the cells l, from the first on. -/
def loadA (P : Program) (t : TypeId) (l : List AV) : Option AV :=
 match tyA P t with
 | some i => if isAggK i.kind then (if i.size ≤ l.length then some (.agg (l.take i.size)) else none) else l.head?
 | none => none

/-- The cells from an address on. -/
def cellsAt (H : AHeap) : AV → Option (List AV)
 | .ptr id off => match H[id]? with
  | some (.cells cs) => some (cs.drop off)
  | _ => none
 | .dp cs off => some (cs.drop off)
 | _ => none

section
variable {P : Program} {B : Nat} {w0 : World} {a : List AV} {H : AHeap} {μ : Nat → Nat × Nat} {Z : Nat → Nat → Prop} {w : World} {n : Nat}

theorem cells_get {v : AV} {cv : Value} {l : List AV} (h : cellsAt H v = some l) (hR : R B w0 μ Z H w) (hv : VR μ Z w H.length v cv) :
  ∃ c o, cv = .pointer (some ⟨c, o, none⟩) ∧ ∀ j x, l[j]? = some x → ∃ u, w.cell? ⟨c, o + j, none⟩ = some u ∧ u.oneCell' = true ∧ VR μ Z w H.length x u := by
 cases v with
 | ptr id off =>
  simp only [cellsAt] at h
  split at h
  ·rename_i cs hid
   cases h
   cases hv
   obtain ⟨_, _, ccs, e, fr, h1, h2, h3, h4⟩ := hR.obj id _ hid
   refine ⟨_, _, rfl, fun j x hj => ?_⟩
   rw [List.getElem?_drop] at hj
   obtain ⟨u, hu, h5, h6⟩ := h4 _ _ hj
   exact ⟨u, by rw [cell_of_row w _ _ ccs e fr h1, Nat.add_assoc]; exact hu, h5, h6⟩
  ·cases h
 | dp cs off =>
  simp only [cellsAt, Option.some.injEq] at h
  subst h
  cases hv with
  | dp _ _ c o f h1 h2 h3 h5 =>
   refine ⟨c, o + off, rfl, fun j x hj => ?_⟩
   rw [List.getElem?_drop] at hj
   exact ⟨_, by rw [Nat.add_assoc]; exact h1 _ _ hj, h5 _ (List.getElem?_eq_some_iff.1 hj).1, h3 _ _ hj⟩
 | _ => cases h

theorem addr_add (c o j : Nat) : (⟨c, o, none⟩ : Addr).add j = ⟨c, o + j, none⟩ := by
 unfold Addr.add; split <;> simp_all

theorem load_run {t : TypeId} {l : List AV} {v : AV} {c o : Nat} (h : loadA P t l = some v)
  (hc : ∀ j x, l[j]? = some x → ∃ u, w.cell? ⟨c, o + j, none⟩ = some u ∧ u.oneCell' = true ∧ VR μ Z w n x u) :
  ∃ cv, (loadVar t ⟨c, o, none⟩).run P w = .ok cv w ∧ VR μ Z w n v cv ∧ (∀ i, tyA P t = some i → cv.cells.size = if isAggK i.kind then i.size else 1) := by
 unfold loadA at h
 split at h
 ·rename_i i hi
  split at h
  ·rename_i hagg
   split at h
   ·rename_i hle
    cases h
    obtain ⟨f, hf⟩ : ∃ f : Nat → Value, ∀ j x, l[j]? = some x → w.cell? ⟨c, o + j, none⟩ = some (f j) ∧ VR μ Z w n x (f j) := by
     refine ⟨fun j => (w.cell? ⟨c, o + j, none⟩).getD default, fun j x hj => ?_⟩
     obtain ⟨u, h1, _, h3⟩ := hc j x hj
     simp only [h1, Option.getD_some]
     exact ⟨trivial, h3⟩
    refine ⟨.agg ((List.range i.size).map f).toArray, ?_, ?_, ?_⟩
    ·have := run_loadCells (P := P) w ⟨c, o, none⟩ i.size f (fun j hj => by
      rw [addr_add]; exact (hf j l[j] (List.getElem?_eq_getElem (by omega))).1)
     simp [loadVar, run_isAgg' hi, hagg, run_sizeOf' hi, this]
    ·refine .agg _ _ (by simp; omega) f ?_ ?_
     ·intro j x hj
      have hlt : j < i.size := by have := (List.getElem?_eq_some_iff.1 hj).1; simp at this; omega
      simp [hlt]
     ·intro j x hj
      rw [List.getElem?_take] at hj
      split at hj
      ·exact (hf j x hj).2
      ·cases hj
    ·intro i' hi'
     rw [hi] at hi'
     cases hi'
     simp [hagg, Value.cells]
   ·cases h
  ·rename_i hagg
   obtain ⟨u, h1, h2, h3⟩ := hc 0 v (by simpa [List.head?_eq_getElem?] using h)
   refine ⟨u, ?_, h3, ?_⟩
   ·simp only [Nat.add_zero] at h1
    simp [loadVar, run_isAgg' hi, hagg, h1]
   ·intro i' hi'
    rw [hi] at hi'
    cases hi'
    simp only [hagg]
    cases u <;> simp_all [Value.cells, Value.oneCell']
 ·cases h
end
end Go.Av
end
