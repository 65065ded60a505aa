/- the plain law, part 14 -/
import Derived.Test.YtjmhdecofadfnaaGreatP13
set_option autoImplicit false
set_option linter.unusedSimpArgs false
set_option linter.unusedVariables false
set_option linter.unnecessarySimpa false
section
namespace Go.Av
/-- a mask of a grid -/
structure MK (W H : Nat) (m : S5) : Prop where
 c0 : m.c0 = (W : Int)
 c1 : m.c1 = (H : Int)
 vm : Vm m
section
variable {n W H : Nat} (hn : 90000 ≤ n) (hWH : H * W ≤ 3000)
include hWH
theorem mk_len {m : S5} (h : MK W H m) : m.c2.length ≤ 3000 := Nat.le_trans (len_card h.vm.2.1 (vm_inG h.vm h.c0 h.c1)) hWH
omit hWH in
theorem mk_new {r : List S1} (hW : W ≤ 4096) (hH : H ≤ 4096) (hc : Can r) (hg : InG W H r) : MK W H ⟨(W : Int), (H : Int), r⟩ :=
 ⟨rfl, rfl, ⟨by simp only []; omega, by simp only []; omega, by simp only []; omega, by simp only []; omega⟩, hc, hg⟩
omit hWH in
theorem mk_uniq {a b : S5} (ha : MK W H a) (hb : MK W H b) (h : ∀ Y X, Px a.c2 Y X ↔ Px b.c2 Y X) : a = b := by
 have e := can_unique a.c2 b.c2 ha.vm.2.1 hb.vm.2.1 h
 have e0 := ha.c0.trans hb.c0.symm
 have e1 := ha.c1.trans hb.c1.symm
 cases a; cases b
 simp only [] at e e0 e1
 rw [e, e0, e1]
theorem eq_mk (hn : 90000 ≤ n) {a b : S5} (ha : MK W H a) (hb : MK W H b) (h : ∀ Y X, Px a.c2 Y X ↔ Px b.c2 Y X) : g22 n a b = some true := by
 rw [mk_uniq ha hb h]
 have := mk_len hWH hb
 exact eq2_rf n (by omega) b (by omega)
theorem union_mk (hn : 90000 ≤ n) {a b : S5} (ha : MK W H a) (hb : MK W H b) : ∃ m, g41 n a b = some (m, 0) ∧ MK W H m ∧ ∀ Y X, Px m.c2 Y X ↔ Px a.c2 Y X ∨ Px b.c2 Y X := by
 have l1 := mk_len hWH ha
 have l2 := mk_len hWH hb
 have g := ha.vm.1
 obtain ⟨r, e, c, i, p⟩ := comb0_ok n hn a b W H ha.c0 ha.c1 (by omega) (by omega) ⟨⟨ha.vm, hb.vm⟩, ha.c0.trans hb.c0.symm, ha.c1.trans hb.c1.symm⟩
 have h0 := ha.c0
 have h1 := ha.c1
 unfold Gd at g
 exact ⟨_, e, mk_new (by omega) (by omega) c i, p⟩
theorem meet_mk (hn : 90000 ≤ n) {a b : S5} (ha : MK W H a) (hb : MK W H b) : ∃ m, g42 n a b = some (m, 0) ∧ MK W H m ∧ ∀ Y X, Px m.c2 Y X ↔ Px a.c2 Y X ∧ Px b.c2 Y X := by
 have l1 := mk_len hWH ha
 have l2 := mk_len hWH hb
 have g := ha.vm.1
 obtain ⟨r, e, c, i, p⟩ := comb1_ok n hn a b W H ha.c0 ha.c1 (by omega) (by omega) ⟨⟨ha.vm, hb.vm⟩, ha.c0.trans hb.c0.symm, ha.c1.trans hb.c1.symm⟩
 have h0 := ha.c0
 have h1 := ha.c1
 unfold Gd at g
 exact ⟨_, e, mk_new (by omega) (by omega) c i, p⟩
theorem minus_mk (hn : 90000 ≤ n) {a b : S5} (ha : MK W H a) (hb : MK W H b) : ∃ m, g43 n a b = some (m, 0) ∧ MK W H m ∧ ∀ Y X, Px m.c2 Y X ↔ Px a.c2 Y X ∧ ¬ Px b.c2 Y X := by
 have l1 := mk_len hWH ha
 have l2 := mk_len hWH hb
 have g := ha.vm.1
 obtain ⟨r, e, c, i, p⟩ := comb2_ok n hn a b W H ha.c0 ha.c1 (by omega) (by omega) ⟨⟨ha.vm, hb.vm⟩, ha.c0.trans hb.c0.symm, ha.c1.trans hb.c1.symm⟩
 have h0 := ha.c0
 have h1 := ha.c1
 unfold Gd at g
 exact ⟨_, e, mk_new (by omega) (by omega) c i, p⟩
theorem count_mk (hn : 90000 ≤ n) {m : S5} (h : MK W H m) : g18 n m = some ((card W H m.c2 : Nat) : Int) := by
 have := mk_len hWH h
 exact count_vm n m W H h.vm h.c0 h.c1 (by omega) (by omega)
omit hWH in
theorem pxb_of {l : List S1} {y x : Int} {b : Bool} (h : Px l y x ↔ b = true) : pxb l y x = b := by
 have := (pxb_iff l y x).trans h
 cases q : pxb l y x <;> cases b <;> simp_all
end
theorem pureMG (a0 a1 : Int) (a2 a3 a4 : List Int) (_ : isI64 a0) (_ : isI64 a1) (_ : ∀ n, n ∈ a2 → isI64 n) (_ : ∀ n, n ∈ a3 → isI64 n) (_ : ∀ n, n ∈ a4 → isI64 n) : ∃ n, g8 n a0 a1 a2 a3 a4 = some true := by
 refine ⟨90000, ?_⟩
 have hn : 90000 ≤ 90000 := Nat.le_refl _
 generalize hN : 90000 = n at *
 have hn : 90000 ≤ n := by omega
 clear hN
 obtain ⟨w, e1, w1⟩ := number1 n a0 11 (by omega) (by omega)
 obtain ⟨h, e2, h1⟩ := number1 n a1 11 (by omega) (by omega)
 obtain ⟨a, e3, va, _, wa, ha⟩ := g12_vm n (by omega) w h a2 w1 h1
 obtain ⟨b, e4, vb, _, wb, hb⟩ := g12_vm n (by omega) w h a3 w1 h1
 obtain ⟨c, e5, vc, _, wc, hc⟩ := g12_vm n (by omega) w h a4 w1 h1
 obtain ⟨W, rfl⟩ : ∃ W : Nat, w = (W : Int) := ⟨w.toNat, by omega⟩
 obtain ⟨H, rfl⟩ : ∃ H : Nat, h = (H : Int) := ⟨h.toNat, by omega⟩
 have hWH : H * W ≤ 3000 := Nat.le_trans (Nat.mul_le_mul (show H ≤ 10 by omega) (show W ≤ 10 by omega)) (by omega)
 have ka : MK W H a := ⟨wa, ha, va⟩
 have kb : MK W H b := ⟨wb, hb, vb⟩
 have kc : MK W H c := ⟨wc, hc, vc⟩
 obtain ⟨ab, f1, k1, p1⟩ := union_mk hWH hn ka kb
 obtain ⟨ba, f2, k2, p2⟩ := union_mk hWH hn kb ka
 obtain ⟨m, f3, k3, p3⟩ := meet_mk hWH hn ka kb
 obtain ⟨o, f4, k4, p4⟩ := meet_mk hWH hn kb ka
 obtain ⟨d, f5, k5, p5⟩ := minus_mk hWH hn ka kb
 obtain ⟨no, f6, k6, p6⟩ := meet_mk hWH hn k5 k3
 obtain ⟨back, f7, k7, p7⟩ := union_mk hWH hn k5 k3
 obtain ⟨bc, f8, k8, p8⟩ := union_mk hWH hn kb kc
 obtain ⟨left, f9, k9, p9⟩ := union_mk hWH hn k1 kc
 obtain ⟨right, f10, k10, p10⟩ := union_mk hWH hn ka k8
 obtain ⟨over, f11, k11, p11⟩ := meet_mk hWH hn ka k8
 obtain ⟨ac, f12, k12, p12⟩ := meet_mk hWH hn ka kc
 obtain ⟨sum, f13, k13, p13⟩ := union_mk hWH hn k3 k12
 have q1 := eq_mk hWH hn k1 k2 (fun Y X => by rw [p1, p2, or_comm])
 have q2 := eq_mk hWH hn k3 k4 (fun Y X => by rw [p3, p4, and_comm])
 have q3 : card W H ab.c2 + card W H m.c2 = card W H a.c2 + card W H b.c2 := card_add W H fun y x => by
  rw [pxb_of (l := ab.c2) (b := pxb a.c2 y x || pxb b.c2 y x) (by rw [p1]; simp [pxb_iff]), pxb_of (l := m.c2) (b := pxb a.c2 y x && pxb b.c2 y x) (by rw [p3]; simp [pxb_iff])]
  cases pxb a.c2 y x <;> cases pxb b.c2 y x <;> rfl
 have q4 : card W H d.c2 + card W H m.c2 = card W H a.c2 := by
  have := card_add W H (a := d.c2) (b := m.c2) (c := a.c2) (d := []) fun y x => by
   rw [pxb_of (l := d.c2) (b := pxb a.c2 y x && !pxb b.c2 y x) (by rw [p5]; simp [← pxb_iff]), pxb_of (l := m.c2) (b := pxb a.c2 y x && pxb b.c2 y x) (by rw [p3]; simp [pxb_iff]), show pxb [] y x = false from rfl]
   cases pxb a.c2 y x <;> cases pxb b.c2 y x <;> rfl
  rw [card_nil] at this
  omega
 have q5 : card W H no.c2 = 0 := by
  have : no.c2 = [] := can_unique no.c2 [] k6.vm.2.1 ⟨List.Pairwise.nil, by simp⟩ (fun Y X => by
   rw [p6, p5, p3]
   exact ⟨fun ⟨⟨_, q⟩, ⟨_, q'⟩⟩ => absurd q' q, fun q => absurd q (px_nil _ _)⟩)
  rw [this, card_nil]
 have q6 := eq_mk hWH hn k7 ka (fun Y X => by
  rw [p7, p5, p3]
  by_cases t : Px b.c2 Y X <;> simp [t])
 have q7 := eq_mk hWH hn k9 k10 (fun Y X => by rw [p9, p1, p10, p8, or_assoc])
 have q8 := eq_mk hWH hn k11 k13 (fun Y X => by rw [p11, p8, p13, p3, p12, and_or_left])
 have i1 : IntKind.i64.wrap (((card W H ab.c2 : Nat) : Int) + ((card W H m.c2 : Nat) : Int)) = IntKind.i64.wrap (((card W H a.c2 : Nat) : Int) + ((card W H b.c2 : Nat) : Int)) := congrArg _ (by omega)
 have i2 : IntKind.i64.wrap (((card W H d.c2 : Nat) : Int) + ((card W H m.c2 : Nat) : Int)) = ((card W H a.c2 : Nat) : Int) := by
  have := card_le W H a.c2
  rw [wrap_i64 (by omega) (by omega)]; omega
 unfold g8 g13
 simp only [etaS5, e1, e2, e3, e4, e5, f1, f2, f3, f4, f5, Option.bind_some, q1, q2, if_true, count_mk hWH hn k1, count_mk hWH hn k3, count_mk hWH hn ka, count_mk hWH hn kb, count_mk hWH hn k5, i1, i2, f6, f7, f8, f9, f10, f11, f12, f13, count_mk hWH hn k6, q5, q6, q7, q8]
 rfl
end Go.Av
end
