/- the plain law, part 14 -/
import Derived.Test.YtjmhdecofadfnaaGreatP13
set_option autoImplicit false
set_option linter.unusedSimpArgs false
set_option linter.unusedVariables false
set_option linter.unnecessarySimpa false
section
namespace Go.Av
/-- a mask of a grid -/
structure MK (W H : Nat) (m : S5) : Prop where
 c0 : m.c0 = (W : Int)
 c1 : m.c1 = (H : Int)
 vm : Vm m
section
variable {n W H : Nat} (hn : 90000 ≤ n) (hWH : H * W ≤ 3000)
include hWH
theorem mk_len {m : S5} (h : MK W H m) : m.c2.length ≤ 3000 := Nat.le_trans (len_card h.vm.2.1 (vm_inG h.vm h.c0 h.c1)) hWH
omit hWH in
theorem mk_new {r : List S1} (hW : W ≤ 4096) (hH : H ≤ 4096) (hc : Can r) (hg : InG W H r) : MK W H ⟨(W : Int), (H : Int), r⟩ :=
 ⟨rfl, rfl, ⟨by simp only []; omega, by simp only []; omega, by simp only []; omega, by simp only []; omega⟩, hc, hg⟩
omit hWH in
theorem mk_uniq {a b : S5} (ha : MK W H a) (hb : MK W H b) (h : ∀ Y X, Px a.c2 Y X ↔ Px b.c2 Y X) : a = b := by
 have e := can_unique a.c2 b.c2 ha.vm.2.1 hb.vm.2.1 h
 have e0 := ha.c0.trans hb.c0.symm
 have e1 := ha.c1.trans hb.c1.symm
 cases a; cases b
 simp only [] at e e0 e1
 rw [e, e0, e1]
theorem eq_mk (hn : 90000 ≤ n) {a b : S5} (ha : MK W H a) (hb : MK W H b) (h : ∀ Y X, Px a.c2 Y X ↔ Px b.c2 Y X) : g22 n a b = some true := by
 rw [mk_uniq ha hb h]
 have := mk_len hWH hb
 exact eq2_rf n (by omega) b (by omega)
theorem union_mk (hn : 90000 ≤ n) {a b : S5} (ha : MK W H a) (hb : MK W H b) : ∃ m, g41 n a b = some (m, 0) ∧ MK W H m ∧ ∀ Y X, Px m.c2 Y X ↔ Px a.c2 Y X ∨ Px b.c2 Y X := by
 have l1 := mk_len hWH ha
 have l2 := mk_len hWH hb
 have g := ha.vm.1
 obtain ⟨r, e, c, i, p⟩ := comb0_ok n hn a b W H ha.c0 ha.c1 (by omega) (by omega) ⟨⟨ha.vm, hb.vm⟩, ha.c0.trans hb.c0.symm, ha.c1.trans hb.c1.symm⟩
 have h0 := ha.c0
 have h1 := ha.c1
 unfold Gd at g
 exact ⟨_, e, mk_new (by omega) (by omega) c i, p⟩
theorem meet_mk (hn : 90000 ≤ n) {a b : S5} (ha : MK W H a) (hb : MK W H b) : ∃ m, g42 n a b = some (m, 0) ∧ MK W H m ∧ ∀ Y X, Px m.c2 Y X ↔ Px a.c2 Y X ∧ Px b.c2 Y X := by
 have l1 := mk_len hWH ha
 have l2 := mk_len hWH hb
 have g := ha.vm.1
 obtain ⟨r, e, c, i, p⟩ := comb1_ok n hn a b W H ha.c0 ha.c1 (by omega) (by omega) ⟨⟨ha.vm, hb.vm⟩, ha.c0.trans hb.c0.symm, ha.c1.trans hb.c1.symm⟩
 have h0 := ha.c0
 have h1 := ha.c1
 unfold Gd at g
 exact ⟨_, e, mk_new (by omega) (by omega) c i, p⟩
theorem count_mk (hn : 90000 ≤ n) {m : S5} (h : MK W H m) : g18 n m = some ((card W H m.c2 : Nat) : Int) := by
 have := mk_len hWH h
 exact count_vm n m W H h.vm h.c0 h.c1 (by omega) (by omega)
omit hWH in
end
end Go.Av
end
