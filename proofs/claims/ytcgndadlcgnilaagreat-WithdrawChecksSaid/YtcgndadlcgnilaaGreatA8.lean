/- the layer over the model, part 8 -/
import Derived.Test.YtcgndadlcgnilaaGreatA7
set_option autoImplicit false
set_option linter.unusedSimpArgs false
set_option linter.unusedVariables false
set_option linter.unnecessarySimpa false
section
set_option linter.unusedSimpArgs false
set_option linter.unusedVariables false
namespace Go.Av
open Go.RowKit

/-- An operand that need not be there. -/
def VRo (μ : Nat → Nat × Nat) (Z : Nat → Nat → Prop) (w : World) (n : Nat) : Option AV → Option Value → Prop
 | none, none => True
 | some v, some cv => VR μ Z w n v cv
 | _, _ => False

section
variable {P : Program} {B : Nat} {w0 : World} {a : List AV} {H : AHeap} {μ : Nat → Nat × Nat} {Z : Nat → Nat → Prop} {w : World} {n : Nat}
variable {x y i v : AV} {cx cy ci : Value} {t : TypeId}

theorem bound_run {o : AV} {co : Value} {k y d : Nat} {code : BoundsCode} (hb : bnd d (some o) = some k) (ho : VR μ Z w n o co) (hle : k ≤ y) : (Instr.sliceBound co y code).run P w = .ok k w := by
 unfold bnd at hb
 split at hb
 ·cases ‹some o = none›
 ·rename_i heq; cases heq
  split at hb
  ·rename_i kk m h0
   cases hb; cases ho
   have : m ≤ (y : Int) := by omega
   simp [Instr.sliceBound, asIntOf, h0, this]
  ·cases hb
 ·cases hb

theorem bounds2_run {sl : Bool} {lo hi : Option AV} {clo chi : Option Value} {len cap l h : Nat} (hl : bnd 0 lo = some l) (hh : bnd len hi = some h) (h1 : l ≤ h) (h2 : h ≤ cap)
  (k1 : VRo μ Z w n lo clo) (k2 : VRo μ Z w n hi chi) : (Instr.sliceBounds sl len cap clo chi none).run P w = .ok (l, h, cap) w := by
 cases lo with
 | none =>
  cases clo with
  | none =>
   simp [bnd] at hl; subst hl
   cases hi with
   | none =>
    cases chi with
    | none => simp [bnd] at hh; subst hh; simp [Instr.sliceBounds]
    | some _ => exact k2.elim
   | some o =>
    cases chi with
    | none => exact k2.elim
    | some co => simp [Instr.sliceBounds, bound_run hh k2 h2]
  | some _ => exact k1.elim
 | some o1 =>
  cases clo with
  | none => exact k1.elim
  | some co1 =>
   cases hi with
   | none =>
    cases chi with
    | none => simp [bnd] at hh; subst hh; simp [Instr.sliceBounds, bound_run hl k1 h1]
    | some _ => exact k2.elim
   | some o =>
    cases chi with
    | none => exact k2.elim
    | some co => simp [Instr.sliceBounds, bound_run hh k2 h2, bound_run hl k1 h1]

theorem bounds3_run {sl : Bool} {lo : Option AV} {hi mx : AV} {clo : Option Value} {chi cmx : Value} {len cap l h m : Nat} (hl : bnd 0 lo = some l) (hh : bnd len (some hi) = some h) (hm : bnd 0 (some mx) = some m)
  (h1 : l ≤ h) (h2 : h ≤ m) (h3 : m ≤ cap) (k1 : VRo μ Z w n lo clo) (k2 : VR μ Z w n hi chi) (k3 : VR μ Z w n mx cmx) : (Instr.sliceBounds sl len cap clo (some chi) (some cmx)).run P w = .ok (l, h, m) w := by
 cases lo with
 | none =>
  cases clo with
  | none => simp [bnd] at hl; subst hl; simp [Instr.sliceBounds, bound_run hm k3 h3, bound_run hh k2 h2]
  | some _ => exact k1.elim
 | some o1 =>
  cases clo with
  | none => exact k1.elim
  | some co1 => simp [Instr.sliceBounds, bound_run hm k3 h3, bound_run hh k2 h2, bound_run hl k1 h1]

/-- The middle of a frozen slice. -/
theorem cut_vr {sz : Nat} {es : List AV} {tl : Tail} {A : Option Addr} {cap l h m : Nat} {mx : Option Nat} (hx : VR μ Z w n (.dl sz es tl) (.slice A es.length cap)) (h1 : l ≤ h) (h2 : h ≤ es.length)
  (h3 : es.length ≤ cap) (hm : match mx with | some k => m = k ∧ h ≤ m | none => m = cap) :
  VR μ Z w n (.dl sz ((es.take h).drop l) (cutTail l h es.length mx tl)) (.slice (if m = l then A else A.map (·.add (l * sz))) (h - l) (m - l)) := by
 have hmh : h ≤ m := by
  cases mx with
  | none => simp only at hm; omega
  | some k => exact hm.2
 by_cases he : l = h
 ·subst he
  have e1 : (es.take l).drop l = [] := by rw [List.drop_eq_nil_iff]; simp; omega
  rw [e1, Nat.sub_self]
  refine .dl0 _ _ _ _ ?_ ?_
  ·intro hf
   simp only [cutTail, if_true] at hf
   cases mx with
   | none =>
    simp only at hf hm
    split at hf
    ·rename_i hll
     have htl : tl = .full := by cases tl <;> first | rfl | cases hf
     subst htl
     have hcap : cap = es.length := by
      generalize hlen : es.length = L at *
      cases hx with
      | dl0 _ _ _ _ q1 _ => simp at hlen; have := q1 rfl; omega
      | dl _ _ _ _ _ _ _ _ _ _ _ _ _ q7 => exact q7
     omega
    ·cases hf
   | some k =>
    simp only at hf
    split at hf
    ·have := hm.1; omega
    ·cases hf
  ·intro t ht
   simp only [cutTail, if_true] at ht
   cases mx with
   | none =>
    simp only at ht
    split at ht
    ·cases tl <;> cases ht
    ·cases ht
   | some k => simp only at ht; split at ht <;> cases ht
 ·rw [if_neg (by omega)]
  generalize hlen : es.length = L at *
  cases hx with
  | dl0 => simp at hlen; omega
  | dl _ _ _ c o _ f hs hc k1 k2 k3 k5 ht =>
   have hfl := flat_length hs
   have hlen' : ((es.take h).drop l).length = h - l := by simp; omega
   have hflat : flat ((es.take h).drop l) = ((flat es).take (h * sz)).drop (l * sz) := by
    rw [flat_drop l (fun e he => hs e (List.mem_of_mem_take he)), flat_take h hs]
   have hget : ∀ j z, (flat ((es.take h).drop l))[j]? = some z → (flat es)[l * sz + j]? = some z := by
    intro j z hj
    rw [hflat, List.getElem?_drop, List.getElem?_take] at hj
    split at hj
    ·exact hj
    ·cases hj
   have hlt : ∀ j, j < (flat ((es.take h).drop l)).length → l * sz + j < (flat es).length := by
    intro j hj
    rw [hflat] at hj
    simp at hj
    omega
   simp only [Option.map_some, addr_add]
   rw [← hlen']
   refine .dl sz _ _ c (o + l * sz) _ (fun j => f (l * sz + j)) ?_ (by omega) ?_ ?_ ?_ ?_ ?_
   ·exact fun e he => hs e (List.mem_of_mem_take (List.mem_of_mem_drop he))
   ·intro j z hj; rw [Nat.add_assoc]; exact k1 _ _ (hget j z hj)
   ·intro j hj; rw [Nat.add_assoc]; exact k2 _ (hlt j hj)
   ·intro j z hj; exact k3 _ _ (hget j z hj)
   ·intro j hj; exact k5 _ (hlt j hj)
   ·unfold cutTail
    rw [if_neg he]
    cases mx with
    | some k =>
     simp only at hm ⊢
     split
     ·show m - l = _; omega
     ·trivial
    | none =>
     simp only at hm ⊢
     split
     ·rename_i hhl
      rw [hlen'] at *
      subst hm
      cases tl with
      | none => trivial
      | full => show _ - l = _; simp only [TailR] at ht; omega
      | tok t =>
       obtain ⟨q1, q2, q3, e, N, q4, q5⟩ := ht
       refine ⟨q1, ?_, q3, e, N, q4, ?_⟩
       ·rw [q2, hlen, ← hhl, Nat.add_assoc, ← Nat.add_mul]; congr 2; congr 1; omega
       ·rw [Nat.add_assoc, ← Nat.add_mul]; rw [show l + (m - l) = m by omega]; exact q5
     ·trivial

theorem slice_run {lo hi mx : Option AV} {clo chi cmx : Option Value} (h : sliceA P t x lo hi mx = some v) (hx : VR μ Z w n x cx) (k1 : VRo μ Z w n lo clo) (k2 : VRo μ Z w n hi chi) (k3 : VRo μ Z w n mx cmx) :
  ∃ cv, (Instr.sliceAt t cx clo chi cmx).run P w = .ok cv w ∧ VR μ Z w n v cv := by
 unfold sliceA at h
 split at h
 ·rename_i ti hi'
  split at h
  ·-- a string
   rename_i s hk
   have hu := kind_str hi' hk
   split at h
   ·rename_i l hh h1 h2
    split at h
    ·rename_i hc
     obtain ⟨c1, c2, c3⟩ := hc
     cases mx with
     | some _ => cases c3
     | none =>
      cases cmx with
      | some _ => exact k3.elim
      | none =>
       cases h; cases hx
       refine ⟨.string ⟨(((s.take hh).drop l)).toArray⟩, ?_, .str _⟩
       have hb := bounds2_run (P := P) (sl := false) (cap := s.length) h1 h2 c1 c2 k1 k2
       have hsz : (⟨s.toArray⟩ : ByteArray).size = s.length := rfl
       simp [Instr.sliceAt, Instr.slice, run_und hu, hsz, hb, ByteArray.extract_mk, List.drop_take]
    ·cases h
   ·cases h
  ·-- a frozen slice
   rename_i sz es tl e hk
   have hu := kind_slice hi' hk
   split at h
   ·rename_i te hte
    have hcx : ∃ A cap, cx = .slice A es.length cap ∧ es.length ≤ cap := by
     cases hx with
     | dl0 => exact ⟨_, _, rfl, Nat.zero_le _⟩
     | dl => exact ⟨_, _, rfl, by assumption⟩
    obtain ⟨A, cap, rfl, hcap⟩ := hcx
    split at h
    ·rename_i l hh h1 h2
     cases mx with
     | none =>
      cases cmx with
      | some _ => exact k3.elim
      | none =>
       simp only at h
       split at h
       ·rename_i hc
        obtain ⟨c1, c2, c3⟩ := hc
        cases h
        have hb := bounds2_run (P := P) (sl := true) (cap := cap) h1 h2 c1 (by omega) k1 k2
        have hv := cut_vr (mx := none) (m := cap) hx c1 c2 hcap rfl
        refine ⟨_, ?_, hv⟩
        rcases c3 with c3 | c3
        ·simp [Instr.sliceAt, Instr.slice, run_und hu, hb, run_sizeOf' hte, c3]
        ·obtain rfl : l = 0 := by omega
         simp [Instr.sliceAt, Instr.slice, run_und hu, hb, run_sizeOf' hte, Addr.add]
       ·cases h
     | some m' =>
      cases cmx with
      | none => exact k3.elim
      | some cm =>
       simp only at h
       split at h
       ·rename_i m hm
        split at h
        ·rename_i hc
         obtain ⟨c1, c2, c3, c4, c5⟩ := hc
         cases h
         cases hi with
         | none => cases c4
         | some hi =>
          cases chi with
          | none => exact k2.elim
          | some chi =>
           have hb := bounds3_run (P := P) (sl := true) (cap := cap) h1 h2 hm c1 c2 (by omega) k1 k2 k3
           have hv := cut_vr (mx := some m) (m := m) hx c1 (by omega) hcap ⟨rfl, c2⟩
           refine ⟨_, ?_, hv⟩
           rcases c5 with c5 | c5
           ·simp [Instr.sliceAt, Instr.slice, run_und hu, hb, run_sizeOf' hte, c5]
           ·obtain rfl : l = 0 := by omega
            simp [Instr.sliceAt, Instr.slice, run_und hu, hb, run_sizeOf' hte, Addr.add]
        ·cases h
       ·cases h
    ·cases h
   ·cases h
  ·-- an owned slice
   rename_i sz id off len e hk
   have hu := kind_slice hi' hk
   split at h
   ·rename_i te hte
    split at h
    ·rename_i l hh h1 h2
     split at h
     ·rename_i hc
      obtain ⟨c1, c2, c3, c4⟩ := hc
      cases mx with
      | some _ => cases c4
      | none =>
       cases cmx with
       | some _ => exact k3.elim
       | none =>
        cases hx with
        | sl _ _ _ _ cap hid hcap hsz e' N hN hN2 =>
         have hb := bounds2_run (P := P) (sl := true) (cap := cap) h1 h2 c1 (by omega) k1 k2
         split at h
         ·rename_i hl
          cases h
          obtain ⟨rfl, _⟩ := hl
          refine ⟨_, by simp [Instr.sliceAt, Instr.slice, run_und hu, hb, run_sizeOf' hte]; rfl, ?_⟩
          exact .dl0 _ _ _ _ (by simp) (by simp)
         ·rename_i hl
          cases h
          refine ⟨.slice (some ⟨(μ id).1, (μ id).2 + off + l * sz, none⟩) (hh - l) (cap - l), ?_, ?_⟩
          ·by_cases hcl : cap = l
           ·obtain rfl : l = 0 := by omega
            simp [Instr.sliceAt, Instr.slice, run_und hu, hb, run_sizeOf' hte, addr_add, c3, Addr.add]
           ·simp [Instr.sliceAt, Instr.slice, run_und hu, hb, run_sizeOf' hte, addr_add, c3, hcl]
          ·rw [Nat.add_assoc]
           refine .sl sz id (off + l * sz) (hh - l) (cap - l) hid (by omega) hsz e' N hN ?_
           have : l * sz + (cap - l) * sz = cap * sz := by rw [← Nat.add_mul]; congr 1; omega
           omega
     ·cases h
    ·cases h
   ·cases h
  ·cases h
 ·cases h
end
end Go.Av
end
