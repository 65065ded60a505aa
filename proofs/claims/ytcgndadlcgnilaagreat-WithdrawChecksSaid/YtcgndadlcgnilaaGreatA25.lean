/- the layer over the model, part 25 -/
import Derived.Test.YtcgndadlcgnilaaGreatA24
set_option autoImplicit false
set_option linter.unusedSimpArgs false
set_option linter.unusedVariables false
set_option linter.unnecessarySimpa false
section
set_option linter.unusedSimpArgs false
set_option linter.unusedVariables false
namespace Go.Av
open Go.RowKit

/-- What is read in an argument that is a list of numbers. -/
def IsRow (k : IntKind) (w : World) (a : Option Addr) (len cap : Nat) (zs : List Int) : Prop :=
 (a = none ∧ len = 0 ∧ cap = 0 ∧ zs = []) ∨
 ∃ x, a = some x ∧ len ≤ cap ∧ cap ≤ maxLen ∧ zs.length = cap ∧ (∀ i, i < zs.length → w.cell? (x.add i) = some (.int k (zs.getD i 0))) ∧ ∀ n ∈ zs, (Lit.int k n).wf = true

theorem R.start (W : World) : R W.heap.size W (fun _ => (0, 0)) (fun c _ => c < W.heap.size) [] W :=
 ⟨Below.refl _ _, Nat.le_refl _, fun _ _ h => h, fun id o h => by simp at h, fun i j oi oj h => by simp at h⟩

theorem IsRow.vr {k : IntKind} {W : World} {a : Option Addr} {len cap : Nat} {zs : List Int} (h : IsRow k W a len cap zs) (μ : Nat → Nat × Nat) (n : Nat) :
  VR μ (fun c _ => c < W.heap.size) W n (.dl 1 (List.map (AV.int k) (zs.take len)) .none) (.slice a len cap) := by
 rcases h with ⟨rfl, rfl, rfl, rfl⟩ | ⟨x, rfl, h1, h2, h3, h4, h5⟩
 ·exact .dl0 _ _ _ _ (fun e => by cases e) (fun t e => by cases e)
 ·by_cases h0 : len = 0
  ·subst h0
   exact .dl0 _ _ _ _ (fun e => by cases e) (fun t e => by cases e)
  ·have hl : len ≤ zs.length := by omega
   have hfl : flat (List.map (AV.int k) (zs.take len)) = List.map (AV.int k) (zs.take len) := flat_ints k _
   have hlen : (List.map (AV.int k) (zs.take len)).length = len := by simp; omega
   have hcu : ∀ (y : Addr) (v : Value), W.cell? y = some v → y.block < W.heap.size ∧ y.spot = none := by
    intro y v hy
    unfold World.cell? at hy
    cases hx : W.heap[y.block]? with
    | none => rw [hx] at hy; cases hy
    | some ob =>
     have hlt : y.block < W.heap.size := (Array.getElem?_eq_some_iff.1 hx).1
     rw [hx] at hy
     cases ob with
     | cells c e fr =>
      simp only at hy
      split at hy
      ·cases hy
      ·rename_i hsp
       exact ⟨hlt, by simpa using hsp⟩
     | _ => cases hy
   obtain ⟨bl, off, sp⟩ := x
   have h40 := h4 0 (by omega)
   have hadd0 : (⟨bl, off, sp⟩ : Addr).add 0 = ⟨bl, off, sp⟩ := by unfold Addr.add; simp
   rw [hadd0] at h40
   obtain ⟨hblt, hspot⟩ := hcu _ _ h40
   simp only at hblt hspot
   subst hspot
   have hadd : ∀ i, (⟨bl, off, none⟩ : Addr).add i = ⟨bl, off + i, none⟩ := by
    intro i; unfold Addr.add
    split <;> simp_all
   have hcell : ∀ i, i < len → W.cell? ⟨bl, off + i, none⟩ = some (.int k (zs.getD i 0)) := by
    intro i hi
    have := h4 i (by omega)
    rwa [hadd] at this
   have key := VR.dl (μ := μ) (Z := fun c _ => c < W.heap.size) (w := W) (n := n) 1 (List.map (AV.int k) (zs.take len)) .none bl off cap (fun j => .int k (zs.getD j 0))
    (fun e he => by obtain ⟨y, _, rfl⟩ := List.mem_map.1 he; rfl) (by omega)
    (fun j v hj => by
     rw [hfl] at hj
     have hjl := (List.getElem?_eq_some_iff.1 hj).1
     exact hcell j (by omega))
    (fun j hj => hblt)
    (fun j v hj => by
     rw [hfl] at hj
     have hjl := (List.getElem?_eq_some_iff.1 hj).1
     rw [hlen] at hjl
     have hz : j < zs.length := by omega
     rw [List.getElem?_map, List.getElem?_take_of_lt hjl, List.getElem?_eq_getElem hz] at hj
     simp at hj
     subst hj
     have : zs.getD j 0 = zs[j] := by simp [List.getD, hz]
     rw [this]
     exact .int _ _)
    (fun j hj => rfl) trivial
   rw [hlen] at key
   exact key

/-- A law's call, out of what is known of it abstractly. -/
theorem ACall.law {P : Program} {W : World} {f : FuncId} {args : List AV} {cargs : Array Value} (h : ACall P W.heap.size W f args [] (fun v _ => v = .bool true)) (hargs : VRs (fun _ => (0, 0)) (fun c _ => c < W.heap.size) W 0 args cargs) :
  Calls P f cargs W fun e w' => e = .returned (.bool true) ∧ Below W.heap.size W w' := by
 have h1 := h.2 _ _ _ cargs (R.start W) hargs
 have h2 : CallsIn Fence.wide 0 P f cargs W fun e w' => e = .returned (.bool true) ∧ Below W.heap.size W w' := by
  refine CallsIn.mono (F := FW none) h1 ?_
  rintro e w' ⟨v, cv, μ', Z', H', rfl, q2, q3, _, rfl⟩
  cases q3
  exact ⟨rfl, q2.below⟩
 exact callsIn_wide.1 h2
theorem VRs.cons {μ : Nat → Nat × Nat} {Z : Nat → Nat → Prop} {w : World} {n : Nat} {v : AV} {cv : Value} {l : List AV} {vs : List Value} (h : VR μ Z w n v cv) (k : VRs μ Z w n l vs.toArray) : VRs μ Z w n (v :: l) (cv :: vs).toArray := by
 refine ⟨by simpa using k.1, fun j u hj => ?_⟩
 cases j with
 | zero => simp at hj; subst hj; exact ⟨cv, by simp, h⟩
 | succ j => obtain ⟨u', q1, q2⟩ := k.2 j u (by simpa using hj); exact ⟨u', by simpa using q1, q2⟩
theorem VRs.nil {μ : Nat → Nat × Nat} {Z : Nat → Nat → Prop} {w : World} {n : Nat} : VRs μ Z w n [] ([] : List Value).toArray := ⟨rfl, by simp⟩
end Go.Av
end
