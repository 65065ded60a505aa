/- the plain law, part 13 -/
import Derived.Test.YtjmhdecofadfnaaGreatP12
set_option autoImplicit false
set_option linter.unusedSimpArgs false
set_option linter.unusedVariables false
set_option linter.unnecessarySimpa false
section
namespace Go.Av
theorem g60_two (n : Nat) (a b : S5) (la : a.c2.length ≤ 20000) (lb : b.c2.length ≤ 20000) (hn : 30000 ≤ n) : ∃ v, g60 n [a, b] = some v ∧ (v = 0 ↔ Vm a ∧ Vm b) := by
 obtain ⟨u, e1, _, h1, hu⟩ := g17_vm n a (by omega) (by omega)
 obtain ⟨v, e2, _, h2, hv⟩ := g17_vm n b (by omega) (by omega)
 obtain ⟨k, rfl⟩ : ∃ k, n = k + 3 := ⟨n - 3, by omega⟩
 have w1 : IntKind.i64.wrap ((0 : Int) + 1) = 1 := by decide
 have w2 : IntKind.i64.wrap ((1 : Int) + 1) = 2 := by decide
 have r0 : rd [a, b] 0 = a := rfl
 have r1 : rd [a, b] 1 = b := rfl
 unfold g60
 unfold l60_0
 rw [if_pos (by simp), if_pos (by simp), r0, etaS5, e1, Option.bind_some, w1]
 by_cases c : u = 0
 ·rw [if_pos c]
  unfold l60_0
  rw [if_pos (by simp), if_pos (by simp), r1, etaS5, e2, Option.bind_some, w2]
  by_cases d : v = 0
  ·rw [if_pos d]
   unfold l60_0
   rw [if_neg (by simp)]
   exact ⟨0, rfl, by simp [← hu, ← hv, c, d]⟩
  ·rw [if_neg d]
   exact ⟨v, rfl, by simp [← hu, ← hv, c, d]⟩
 ·rw [if_neg c]
  exact ⟨u, rfl, by simp [← hu, c]⟩
/-- two masks that can be combined -/
def Two (a b : S5) : Prop := (Vm a ∧ Vm b) ∧ a.c0 = b.c0 ∧ a.c1 = b.c1
theorem comb0_ok (n : Nat) (hn : 90000 ≤ n) (a b : S5) (W H : Nat) (hW : a.c0 = (W : Int)) (hH : a.c1 = (H : Int)) (la : a.c2.length ≤ 20000) (lb : b.c2.length ≤ 20000) (h : Two a b) :
  ∃ r, g41 n a b = some (⟨(W : Int), (H : Int), r⟩, 0) ∧ Can r ∧ InG W H r ∧ ∀ Y X, Px r Y X ↔ KP 0 (Px a.c2 Y X) (Px b.c2 Y X) := by
 obtain ⟨v, e, hv⟩ := g60_two n a b la lb (by omega)
 obtain ⟨⟨ha, hb⟩, d, f⟩ := h
 have v0 := hv.2 ⟨ha, hb⟩
 subst v0
 have h4 := ha.1.2.2.2
 have ia := vm_inG ha hW hH
 have ib := vm_inG hb (d ▸ hW) (f ▸ hH)
 obtain ⟨o1, e1, l1, q1⟩ := rows_ok n a H hH (by omega) (by omega) (by omega) ha.2.2
 obtain ⟨o2, e2, l2, q2⟩ := rows_ok n b H (f ▸ hH) (by omega) (by omega) (by omega) hb.2.2
 obtain ⟨m, e3, r, rfl, c1, c2⟩ := l94_0_0_ok n hn a b H hH (by omega) ha hb la lb o1 o2 l1 l2 q1 q2 n 0 [] (by omega) (by omega) ⟨List.Pairwise.nil, by simp⟩ (bd_nil _ _) (by simp) (fun Y X => ⟨fun q => absurd q (px_nil _ _), fun ⟨_, q, _⟩ => by omega⟩)
 have hp : ∀ Y X, Px r Y X ↔ KP 0 (Px a.c2 Y X) (Px b.c2 Y X) := fun Y X => by
  rw [c2]
  refine ⟨fun q => q.2.2, fun q => ?_⟩
  rcases kp_any 0 q with k | k
  ·have := px_inG ia k; exact ⟨this.1, this.2.1, q⟩
  ·have := px_inG ib k; exact ⟨this.1, this.2.1, q⟩
 refine ⟨r, ?_, c1, inG_px c1 (fun Y X q => ?_), hp⟩
 ·unfold g41 g94_0
  simp only [etaS5]
  rw [e, Option.bind_some, if_pos rfl, if_pos d, if_pos f, e1, Option.bind_some, e2, Option.bind_some]
  rw [show l94_0_0 n a o1 o2 n 0 [] = some (⟨a.c0, (H : Int), r⟩, 0) from e3, hW]
  rfl
 ·rcases kp_any 0 ((hp Y X).1 q) with k | k
  ·exact px_inG ia k
  ·exact px_inG ib k
theorem comb1_ok (n : Nat) (hn : 90000 ≤ n) (a b : S5) (W H : Nat) (hW : a.c0 = (W : Int)) (hH : a.c1 = (H : Int)) (la : a.c2.length ≤ 20000) (lb : b.c2.length ≤ 20000) (h : Two a b) :
  ∃ r, g42 n a b = some (⟨(W : Int), (H : Int), r⟩, 0) ∧ Can r ∧ InG W H r ∧ ∀ Y X, Px r Y X ↔ KP 1 (Px a.c2 Y X) (Px b.c2 Y X) := by
 obtain ⟨v, e, hv⟩ := g60_two n a b la lb (by omega)
 obtain ⟨⟨ha, hb⟩, d, f⟩ := h
 have v0 := hv.2 ⟨ha, hb⟩
 subst v0
 have h4 := ha.1.2.2.2
 have ia := vm_inG ha hW hH
 have ib := vm_inG hb (d ▸ hW) (f ▸ hH)
 obtain ⟨o1, e1, l1, q1⟩ := rows_ok n a H hH (by omega) (by omega) (by omega) ha.2.2
 obtain ⟨o2, e2, l2, q2⟩ := rows_ok n b H (f ▸ hH) (by omega) (by omega) (by omega) hb.2.2
 obtain ⟨m, e3, r, rfl, c1, c2⟩ := l94_1_0_ok n hn a b H hH (by omega) ha hb la lb o1 o2 l1 l2 q1 q2 n 0 [] (by omega) (by omega) ⟨List.Pairwise.nil, by simp⟩ (bd_nil _ _) (by simp) (fun Y X => ⟨fun q => absurd q (px_nil _ _), fun ⟨_, q, _⟩ => by omega⟩)
 have hp : ∀ Y X, Px r Y X ↔ KP 1 (Px a.c2 Y X) (Px b.c2 Y X) := fun Y X => by
  rw [c2]
  refine ⟨fun q => q.2.2, fun q => ?_⟩
  rcases kp_any 1 q with k | k
  ·have := px_inG ia k; exact ⟨this.1, this.2.1, q⟩
  ·have := px_inG ib k; exact ⟨this.1, this.2.1, q⟩
 refine ⟨r, ?_, c1, inG_px c1 (fun Y X q => ?_), hp⟩
 ·unfold g42 g94_1
  simp only [etaS5]
  rw [e, Option.bind_some, if_pos rfl, if_pos d, if_pos f, e1, Option.bind_some, e2, Option.bind_some]
  rw [show l94_1_0 n a o1 o2 n 0 [] = some (⟨a.c0, (H : Int), r⟩, 0) from e3, hW]
  rfl
 ·rcases kp_any 1 ((hp Y X).1 q) with k | k
  ·exact px_inG ia k
  ·exact px_inG ib k
end Go.Av
end
