/- the plain law, part 11 -/
import Derived.Test.YtjmhdecofadfnaaGreatP10
set_option autoImplicit false
set_option linter.unusedSimpArgs false
set_option linter.unusedVariables false
set_option linter.unnecessarySimpa false
section
namespace Go.Av
def ZM : S5 := ⟨0, 0, ([] : List S1)⟩
/-- what Decode answers on any bytes -/
def EDM (n : Nat) (b : List Int) (o : Option (S5 × Int)) : Prop := ∃ r c, o = some (r, c) ∧ ((c = 0 ∧ okM r ∧ g16 n r = some 0 ∧ strOf (encM r) = strOf b) ∨ (c = 2 ∧ r = ZM))
theorem g89_tot (n : Nat) (s : S8) : ∃ v, g89 n s = some v := by
 unfold g89
 repeat' split
 all_goals exact ⟨_, rfl⟩
section
variable (n : Nat) (hn : 4000 ≤ n) (hn2 : n < 1000000)
include hn hn2
theorem endM_ok (R : S5) (hR : okM R) (b : List Int) (s : S8) :
  EDM n b ((g89 n s).bind fun v => if v = 0 then ((g16 n R).bind fun v2 => if v2 = 0 then ((g36 n R).bind fun v3 => if (strOf v3) = (strOf b) then (some (R, 0)) else (some ((⟨0, 0, ([] : List S1)⟩ : S5), 2))) else (some ((⟨0, 0, ([] : List S1)⟩ : S5), 2))) else (some ((⟨0, 0, ([] : List S1)⟩ : S5), 2))) := by
 obtain ⟨v, e⟩ := g89_tot n s
 obtain ⟨w, e2, _⟩ := valid_ok n hn R hR.l
 rw [e, Option.bind_some]
 by_cases h : v = 0
 ·rw [if_pos h, e2, Option.bind_some]
  by_cases q : w = 0
  ·subst q
   rw [if_pos rfl, g36_enc n hn hn2 R hR, Option.bind_some]
   by_cases z : strOf (encM R) = strOf b
   ·rw [if_pos z]; exact ⟨_, _, rfl, .inl ⟨rfl, hR, e2, z⟩⟩
   ·rw [if_neg z]; exact ⟨_, _, rfl, .inr ⟨rfl, rfl⟩⟩
  ·rw [if_neg q]; exact ⟨_, _, rfl, .inr ⟨rfl, rfl⟩⟩
 ·rw [if_neg h]; exact ⟨_, _, rfl, .inr ⟨rfl, rfl⟩⟩
theorem l37_tot (b : List Int) (hb : b.length ≤ 3190) (v4 v6 : Int × S8) (h4 : isI64 v4.1) (h6 : isI64 v6.1) (M : Nat) : ∀ (k : Nat) (x : Int) (s : S8) (acc : List S1), b.length + 1 - acc.length < k → acc.length ≤ b.length + 1 → (∀ r, r ∈ acc → okr r) → Rd M s → EDM n b (l37_0 n b v4 v6 k x s.c0 s.c1 acc)
 | 0, _, _, _, h, _, _, _ => by omega
 | k + 1, x, s, acc, hk, hl, hr, hs => by
  have E := endM_ok n hn hn2 ⟨v4.1, v6.1, acc⟩ ⟨h4, h6, by simp only []; omega, hr⟩ b s
  unfold l37_0
  by_cases c : 0 < x
  ·rw [if_pos c]
   by_cases c2 : (acc.length : Int) ≤ (b.length : Int)
   ·obtain ⟨p, s1, e1, i1, r1⟩ := g40_tot n M (by omega) s hs
    obtain ⟨q, s2, e2, i2, r2⟩ := g40_tot n M (by omega) s1 r1
    obtain ⟨t, s3, e3, i3, r3⟩ := g40_tot n M (by omega) s2 r2
    rw [if_pos c2, show (⟨s.c0, s.c1⟩ : S8) = s from rfl, e1]
    simp only [Option.bind_some]
    rw [show (⟨s1.c0, s1.c1⟩ : S8) = s1 from rfl, e2]
    simp only [Option.bind_some]
    rw [show (⟨s2.c0, s2.c1⟩ : S8) = s2 from rfl, e3]
    simp only [Option.bind_some]
    rw [if_pos (by omega)]
    refine l37_tot b hb v4 v6 h4 h6 M k _ s3 _ (by simp; omega) (by simp; omega) (fun r hr' => ?_) r3
    rcases List.mem_append.1 hr' with h | h
    ·exact hr r h
    ·rw [List.mem_singleton.1 h]; exact ⟨i1, i2, i3⟩
   ·rw [if_neg c2]; exact E
  ·rw [if_neg c]; exact E
omit hn hn2 in
theorem read_ok (b : List Int) (hb : b.length ≤ 100000) : g38 n b = some ⟨b, 0⟩ := by
 unfold g38 g90
 rw [if_pos (by omega)]; rfl
theorem g37_tot (b : List Int) (hb : b.length ≤ 3190) (hu : ∀ x, x ∈ b → 0 ≤ x ∧ x < 256) : EDM n b (g37 n b) := by
 have r0 : Rd b.length ⟨b, 0⟩ := ⟨Nat.le_refl _, hu⟩
 obtain ⟨p, s1, e1, i1, r1⟩ := g40_tot n _ (by omega) _ r0
 obtain ⟨q, s2, e2, i2, r2⟩ := g40_tot n _ (by omega) _ r1
 obtain ⟨t, s3, e3, i3, r3⟩ := g40_tot n _ (by omega) _ r2
 unfold g37
 rw [read_ok n b (by omega)]
 simp only [Option.bind_some]
 rw [e1]
 simp only [Option.bind_some]
 rw [show (⟨s1.c0, s1.c1⟩ : S8) = s1 from rfl, e2]
 simp only [Option.bind_some]
 rw [show (⟨s2.c0, s2.c1⟩ : S8) = s2 from rfl, e3]
 simp only [Option.bind_some]
 exact l37_tot n hn hn2 b hb (p, s1) (q, s2) i1 i2 b.length n t s3 [] (by simp; omega) (by simp) (by simp) r3
theorem l37_rd (m : S5) (h : okM m) (s4 s6 : S8) (v : Int) (hv : g16 n m = some v) : ∀ (k i : Nat), m.c2.length - i < k → i ≤ m.c2.length →
  l37_0 n (encM m) (m.c0, s4) (m.c1, s6) k ((m.c2.length : Int) - (i : Int)) (fr (m.c2.drop i)) 0 (m.c2.take i) = if v = 0 then some (m, 0) else some (ZM, 2)
 | 0, _, h, _ => by omega
 | k + 1, i, hk, hi => by
  have hl := h.l
  have hL := (encM_len h).2
  unfold l37_0
  by_cases c : i < m.c2.length
  ·have hr := h.r _ (mem_rd m.c2 i c)
   have ew : IntKind.i64.wrap ((m.c2.length : Int) - (i : Int) - 1) = (m.c2.length : Int) - ((i + 1 : Nat) : Int) := by rw [wrap_i64 (by omega) (by omega)]; omega
   rw [if_pos (by omega), if_pos (by simp; omega), drop_cons m.c2 i c, fr_cons]
   simp only [vr, List.append_assoc]
   rw [g40_vi n _ hr.1 (by omega)]
   simp only [Option.bind_some]
   rw [g40_vi n _ hr.2.1 (by omega)]
   simp only [Option.bind_some]
   rw [g40_vi n _ hr.2.2 (by omega)]
   simp only [Option.bind_some]
   rw [if_pos (by simp; omega), ew]
   have et : m.c2.take i ++ ([(⟨(rd m.c2 (i : Int)).c0, (rd m.c2 (i : Int)).c1, (rd m.c2 (i : Int)).c2⟩ : S1)] : List S1) = m.c2.take (i + 1) := by
    rw [List.take_succ_eq_append_getElem c, rd_nat m.c2 i c]
   rw [et]
   exact l37_rd m h s4 s6 v hv k (i + 1) (by omega) (by omega)
  ·have e0 : m.c2.take i = m.c2 := List.take_of_length_le (by omega)
   have e1 : fr (m.c2.drop i) = [] := by rw [List.drop_eq_nil_of_le (by omega)]; rfl
   rw [if_neg (by omega), e0, e1, etaS5, hv, g36_enc n hn hn2 m h]
   unfold g89
   rw [if_pos rfl, if_neg (by simp)]
   simp only [Option.bind_some, if_true]
   rfl
theorem g37_enc (m : S5) (h : okM m) (v : Int) (hv : g16 n m = some v) : g37 n (encM m) = if v = 0 then some (m, 0) else some (ZM, 2) := by
 have hl := h.l
 have hL := (encM_len h).1
 have h2 : isI64 (m.c2.length : Int) := ⟨by omega, by omega⟩
 have := fun s4 s6 => l37_rd n hn hn2 m h s4 s6 v hv n 0 (by omega) (by omega)
 simp only [List.drop_zero, List.take_zero] at this
 rw [show (m.c2.length : Int) - ((0 : Nat) : Int) = (m.c2.length : Int) by omega] at this
 unfold g37
 rw [read_ok n _ (by omega)]
 simp only [Option.bind_some]
 unfold encM at *
 rw [g40_vi n _ h.c0 (by omega)]
 simp only [Option.bind_some]
 rw [g40_vi n _ h.c1 (by omega)]
 simp only [Option.bind_some]
 rw [g40_vi n _ h2 (by omega)]
 simp only [Option.bind_some]
 exact this _ _
end
end Go.Av
end
