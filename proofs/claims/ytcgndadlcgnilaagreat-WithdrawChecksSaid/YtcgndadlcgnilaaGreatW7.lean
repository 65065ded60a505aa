/- the walks, part 7 -/
import Derived.Test.YtcgndadlcgnilaaGreatA28
set_option autoImplicit false
set_option linter.unusedSimpArgs false
set_option linter.unusedVariables false
set_option linter.unnecessarySimpa false
section
set_option maxHeartbeats 1000000
set_option maxRecDepth 10000
namespace Go.Av
open Go.Proofs
/-- skymosaic/skymosaicref38.rising -/
def l36_0 (n : Nat) (a0 : List Int) : Nat → Int → Option (Bool)
 | 0, _ => none
 | k2 + 1, x1 => if x1 < (a0.length : Int) then (if (0 : Int) ≤ x1 ∧ x1 < (a0.length : Int) then (if (0 : Int) ≤ (IntKind.i64.wrap (x1 - 1)) ∧ (IntKind.i64.wrap (x1 - 1)) < (a0.length : Int) then (if (rd a0 x1) ≤ (rd a0 (IntKind.i64.wrap (x1 - 1))) then (some false) else ((l36_0 n a0 k2) (IntKind.i64.wrap (x1 + 1)))) else none) else none) else (some true)
theorem rs36 : Tryz.f36.results.toList = [.tmp 2] := rfl
def g36 (n : Nat) (a0 : List Int) : Option (Bool) := l36_0 n a0 n 1
theorem c36 (B : Nat) (w0 : World) (n : Nat) (a0 : List Int) (ta0 : Tail) (H : AHeap) (K : AV → AHeap → Prop) (r : (Bool)) (hg : g36 n a0 = some r)  (hK : K (.bool r) H) : ACall Tryz.prog B w0 36 [.dl 1 (List.map (AV.int .i64) a0) ta0] H K := by
 unfold g36 at hg
 refine ACall.enter Tryz.func36 (by kernel_rfl) rfl (eawp_sound noY_sound _ _ _ _ ?_)
 have hE : Ext H H := Ext.refl H
 simp only [EVA, reduceIte, reduceCtorEq, Tryz.ntmps36, rs36, (show IntKind.i64.wrap 0 = 0 from rfl), (show IntKind.i64.wrap 2 = 2 from rfl)]
 refine AWP.loop (σ := Nat × Int) (fun s => [.dl 1 (List.map (AV.int .i64) a0) ta0, .undef, .undef, .int .i64 s.2, .undef, .undef, .undef, .undef, .undef, .undef, .undef, .undef, .undef, .undef, .undef, .undef, .undef, .undef, .undef, .undef]) (fun s H' => l36_0 n a0 s.1 s.2 = some r ∧ SameH H H') (fun s => s.1) ⟨⟨n, 1⟩, (by repeat' first | exact Wk.nil | apply Wk.u | apply Wk.r), ⟨hg, (rfl : SameH _ _)⟩⟩ ?_
 rintro ⟨k2, x1⟩ H3 ⟨hg, hH9⟩ _
 unfold SameH at hH9
 subst hH9
 try dsimp only at hg
 cases k2 with
 | zero => simp only [l36_0, reduceCtorEq] at hg
 | succ k2 =>
  rw [l36_0] at hg
  refine eawp_sound noY_sound _ _ _ _ ?_
  simp only [EVA, reduceIte, reduceCtorEq, (show IntKind.i64.wrap 0 = 0 from rfl), (show IntKind.i64.wrap 2 = 2 from rfl)]
  rcases ite_some hg with ⟨h4, hg⟩ | ⟨h4, hg⟩
  ·refine Br.yes h4 ?_
   simp only [EVA, reduceIte, reduceCtorEq, eq_true h4, (show IntKind.i64.wrap 0 = 0 from rfl), (show IntKind.i64.wrap 2 = 2 from rfl)]
   refine AWP.draw noY_sound [[], [], [0, 1], [0, 1, 2], [], [], [5], [4, 5, 6], [4, 5, 6, 7], [0, 1, 2, 3, 4, 5, 6, 7, 8]] [⟨0, false, []⟩, ⟨1, false, []⟩, ⟨2, false, []⟩, ⟨3, false, []⟩, ⟨4, false, []⟩, ⟨5, false, []⟩, ⟨6, false, []⟩, ⟨7, false, []⟩, ⟨8, false, []⟩, ⟨9, false, []⟩] [0, 1, 2, 3, 4, 5, 6, 7, 8, 9] [0, 1, 2, 3, 4, 5, 6, 7, 8, 9] (by kernel_rfl) ?_
   obtain ⟨h5, hg⟩ := guard_some hg
   have q6 : List.getD (List.map (AV.int .i64) a0) (Int.toNat x1) AV.undef = (AV.int .i64) (rd a0 x1) := rd_map (l := a0) (i := x1) (AV.int .i64) h5
   obtain ⟨h7, hg⟩ := guard_some hg
   have q8 : List.getD (List.map (AV.int .i64) a0) (Int.toNat (IntKind.i64.wrap (x1 - 1))) AV.undef = (AV.int .i64) (rd a0 (IntKind.i64.wrap (x1 - 1))) := rd_map (l := a0) (i := (IntKind.i64.wrap (x1 - 1))) (AV.int .i64) h7
   simp only [EVA, reduceIte, reduceCtorEq, eq_true h4, eq_true h5.1, eq_true h5.2, q6, eq_true h7.1, eq_true h7.2, q8, (show IntKind.i64.wrap 0 = 0 from rfl), (show IntKind.i64.wrap 2 = 2 from rfl)]
   rcases ite_some hg with ⟨h9, hg⟩ | ⟨h9, hg⟩
   ·refine Br.yes h9 ?_
    simp only [EVA, reduceIte, reduceCtorEq, rs36, eq_true h4, eq_true h5.1, eq_true h5.2, q6, eq_true h7.1, eq_true h7.2, q8, eq_true h9, (show IntKind.i64.wrap 0 = 0 from rfl), (show IntKind.i64.wrap 2 = 2 from rfl)]
    obtain rfl := Option.some.inj hg
    exact hK
   ·refine Br.no h9 ?_
    simp only [EVA, reduceIte, reduceCtorEq, eq_true h4, eq_true h5.1, eq_true h5.2, q6, eq_true h7.1, eq_true h7.2, q8, eq_false h9, (show IntKind.i64.wrap 0 = 0 from rfl), (show IntKind.i64.wrap 2 = 2 from rfl)]
    exact ⟨⟨k2, IntKind.i64.wrap (x1 + 1)⟩, (by repeat' first | exact Wk.nil | apply Wk.u | apply Wk.r), ⟨hg, (rfl : SameH _ _)⟩, Nat.lt_succ_self _⟩
  ·refine Br.no h4 ?_
   simp only [EVA, reduceIte, reduceCtorEq, rs36, eq_false h4, (show IntKind.i64.wrap 0 = 0 from rfl), (show IntKind.i64.wrap 2 = 2 from rfl)]
   obtain rfl := Option.some.inj hg
   exact hK
/-- skymosaic/skymosaicref38.ids -/
def l37_0 (n : Nat) (a0 : List S2) : Nat → List Int → Int → Option (List Int)
 | 0, _, _ => none
 | k4 + 1, x1, x3 => if x3 < (a0.length : Int) then (if (0 : Int) ≤ x3 ∧ x3 < (a0.length : Int) then (if x1.length + 1 ≤ 17592186044416 then ((l37_0 n a0 k4) (x1 ++ ([(rd a0 x3).c0] : List Int)) (IntKind.i64.wrap (x3 + 1))) else none) else none) else (some x1)
theorem rs37 : Tryz.f37.results.toList = [.tmp 2] := rfl
def g37 (n : Nat) (a0 : List S2) : Option (List Int) := l37_0 n a0 n ([] : List Int) 0
theorem c37 (B : Nat) (w0 : World) (n : Nat) (a0 : List S2) (ta0 : Tail) (H : AHeap) (K : AV → AHeap → Prop) (r : (List Int)) (hg : g37 n a0 = some r)  (hK : ∀ (q0 : Tail) (H' : AHeap), Ext H H' → Free H H' q0 → K (.dl 1 (List.map (AV.int .i64) r) q0) H') : ACall Tryz.prog B w0 37 [.dl 7 (List.map encS2 a0) ta0] H K := by
 refine ACall.wkR ?_
 unfold g37 at hg
 refine ACall.enter Tryz.func37 (by kernel_rfl) rfl (eawp_sound noY_sound _ _ _ _ ?_)
 have hE : Ext H H := Ext.refl H
 simp only [EVA, reduceIte, reduceCtorEq, Nat.reduceLT, Nat.reduceLeDiff, Int.reduceEq, Int.reduceLT, Int.reduceLE, Nat.reduceMul, Tryz.ntmps37, rs37, (show IntKind.i64.wrap 1 = 1 from rfl)]
 refine AWP.loop (σ := Nat × List Int × Int × Tail) (fun s => [.dl 7 (List.map encS2 a0) ta0, .undef, .undef, .dl 1 (List.map (AV.int .i64) s.2.1) s.2.2.2, .int .i64 s.2.2.1, .undef, .undef, .undef, .undef, .undef, .undef, .undef, .undef, .undef, .undef, .undef, .undef, .undef, .undef, .undef]) (fun s H' => l37_0 n a0 s.1 s.2.1 s.2.2.1 = some r ∧ Ext H H' ∧ Free H H' s.2.2.2) (fun s => s.1) ⟨⟨n, ([] : List Int), 0, .full⟩, (by repeat' first | exact Wk.nil | apply Wk.u | apply Wk.r | apply Wk.cons (wkV.nilf _ _)), ⟨hg, hE, (Free.full _ _)⟩⟩ ?_
 rintro ⟨k4, x1, x3, tl2⟩ H5 ⟨hg, hE, F6⟩ _
 try dsimp only at hg F6
 cases k4 with
 | zero => simp only [l37_0, reduceCtorEq] at hg
 | succ k4 =>
  rw [l37_0] at hg
  refine eawp_sound noY_sound _ _ _ _ ?_
  simp only [EVA, reduceIte, reduceCtorEq, Nat.reduceLT, Nat.reduceLeDiff, Int.reduceEq, Int.reduceLT, Int.reduceLE, Nat.reduceMul, (show IntKind.i64.wrap 1 = 1 from rfl)]
  rcases ite_some hg with ⟨h7, hg⟩ | ⟨h7, hg⟩
  ·refine Br.yes h7 ?_
   obtain ⟨h8, hg⟩ := guard_some hg
   have q9 : List.getD (List.map encS2 a0) (Int.toNat x3) AV.undef = encS2 (rd a0 x3) := rd_map (l := a0) (i := x3) encS2 h8
   simp only [EVA, reduceIte, reduceCtorEq, Nat.reduceLT, Nat.reduceLeDiff, Int.reduceEq, Int.reduceLT, Int.reduceLE, Nat.reduceMul, eq_true h7, eq_true h8.1, eq_true h8.2, q9, (show IntKind.i64.wrap 1 = 1 from rfl)]
   obtain ⟨h15, hg⟩ := guard_some hg
   refine AppE.goM (H0 := H) (AV.int .i64) x1 ([(rd a0 x3).c0] : List Int) (n := 17592186044416) ty22 rfl ty3 rfl rfl (by decide) (.dl 1 [.int .i64 ((rd a0 x3).c0)] .full) (wkD.refl _) (srcA_dl ty22 rfl) (.inl rfl) h15 (by decide) (by decide) hE F6 ?_
   intro tl10 H11 hE F12 p13 q14 l9
   simp only [EVA, reduceIte, reduceCtorEq, Nat.reduceLT, Nat.reduceLeDiff, Int.reduceEq, Int.reduceLT, Int.reduceLE, Nat.reduceMul, eq_true h7, eq_true h8.1, eq_true h8.2, q9, (show IntKind.i64.wrap 1 = 1 from rfl)]
   exact ⟨⟨k4, x1 ++ ([(rd a0 x3).c0] : List Int), IntKind.i64.wrap (x3 + 1), tl10⟩, (by repeat' first | exact Wk.nil | apply Wk.u | apply Wk.r), ⟨hg, hE, F12⟩, Nat.lt_succ_self _⟩
  ·refine Br.no h7 ?_
   simp only [EVA, reduceIte, reduceCtorEq, Nat.reduceLT, Nat.reduceLeDiff, Int.reduceEq, Int.reduceLT, Int.reduceLE, Nat.reduceMul, rs37, eq_false h7, (show IntKind.i64.wrap 1 = 1 from rfl)]
   obtain rfl := Option.some.inj hg
   exact ⟨_, (wkR.a (wkA.refl _)), (hK tl2 _ hE F6)⟩
/-- skymosaic/skymosaicref38.fits -/
theorem rs38 : Tryz.f38.results.toList = [.tmp 6] := rfl
def g38 (n : Nat) (a0 : S2) (a1 : S2) (a2 : Int) : Option (Bool) := if a0.c6 = true then (if a1.c6 = true then (some false) else (if a0.c1 = a1.c1 then (if a0.c2 = a1.c2 then (if a0.c4 = a1.c4 then (some (decide (a1.c3 = a2))) else (some false)) else (some false)) else (some false))) else (some false)
theorem c38 (B : Nat) (w0 : World) (n : Nat) (a0 : S2) (a1 : S2) (a2 : Int) (H : AHeap) (K : AV → AHeap → Prop) (r : (Bool)) (hg : g38 n a0 a1 a2 = some r)  (hK : ∀ (H' : AHeap), Ext H H' → K (.bool r) H') : ACall Tryz.prog B w0 38 [.agg [.int .i64 a0.c0, .str a0.c1, .int .i64 a0.c2, .int .i64 a0.c3, .int .i64 a0.c4, .int .u64 a0.c5, .bool a0.c6], .agg [.int .i64 a1.c0, .str a1.c1, .int .i64 a1.c2, .int .i64 a1.c3, .int .i64 a1.c4, .int .u64 a1.c5, .bool a1.c6], .int .i64 a2] H K := by
 unfold g38 at hg
 refine ACall.enter Tryz.func38 (by kernel_rfl) rfl (eawp_sound noY_sound _ _ _ _ ?_)
 have hE : Ext H H := Ext.refl H
 simp only [EVA, reduceIte, reduceCtorEq, Tryz.ntmps38, rs38]
 refine eop_box_go (H0 := H) (v := .agg [.int .i64 a0.c0, .str a0.c1, .int .i64 a0.c2, .int .i64 a0.c3, .int .i64 a0.c4, .int .u64 a0.c5, .bool a0.c6]) rfl rfl hE ?_
 intro o1 H2 hE xo1 g_o1 f_o1 n_o1
 have f_o1 : H2[o1]? = some (.cells ([.int .i64 a0.c0, .str a0.c1, .int .i64 a0.c2, .int .i64 a0.c3, .int .i64 a0.c4, .int .u64 a0.c5, .bool a0.c6])) := f_o1
 simp only [EVA, reduceIte, reduceCtorEq, f_o1]
 refine eop_box_go (H0 := H) (v := .agg [.int .i64 a1.c0, .str a1.c1, .int .i64 a1.c2, .int .i64 a1.c3, .int .i64 a1.c4, .int .u64 a1.c5, .bool a1.c6]) rfl rfl hE ?_
 intro o3 H4 hE xo3 g_o3 f_o3 n_o3
 have ne_o1_o3 := n_o3 _ _ f_o1
 have f_o1 := xo3.2 _ _ f_o1
 have f_o3 : H4[o3]? = some (.cells ([.int .i64 a1.c0, .str a1.c1, .int .i64 a1.c2, .int .i64 a1.c3, .int .i64 a1.c4, .int .u64 a1.c5, .bool a1.c6])) := f_o3
 rcases ite_some hg with ⟨h5, hg⟩ | ⟨h5, hg⟩
 ·rcases ite_some hg with ⟨h6, hg⟩ | ⟨h6, hg⟩
  ·simp only [EVA, reduceIte, reduceCtorEq, rs38, h5, h6, f_o1, f_o3]
   obtain rfl := Option.some.inj hg
   exact (hK  _ hE )
  ·have h6 := Bool.eq_false_iff.2 h6
   simp only [EVA, reduceIte, reduceCtorEq, h5, h6, f_o1, f_o3]
   rcases ite_some hg with ⟨h7, hg⟩ | ⟨h7, hg⟩
   ·refine Br.yes h7 ?_
    simp only [EVA, reduceIte, reduceCtorEq, h5, h6, eq_true h7, f_o1, f_o3]
    rcases ite_some hg with ⟨h8, hg⟩ | ⟨h8, hg⟩
    ·refine Br.yes h8 ?_
     simp only [EVA, reduceIte, reduceCtorEq, h5, h6, eq_true h7, eq_true h8, f_o1, f_o3]
     rcases ite_some hg with ⟨h9, hg⟩ | ⟨h9, hg⟩
     ·refine Br.yes h9 ?_
      simp only [EVA, reduceIte, reduceCtorEq, rs38, h5, h6, eq_true h7, eq_true h8, eq_true h9, f_o1, f_o3]
      obtain rfl := Option.some.inj hg
      exact (hK  _ hE )
     ·refine Br.no h9 ?_
      simp only [EVA, reduceIte, reduceCtorEq, rs38, h5, h6, eq_true h7, eq_true h8, eq_false h9, f_o1, f_o3]
      obtain rfl := Option.some.inj hg
      exact (hK  _ hE )
    ·refine Br.no h8 ?_
     simp only [EVA, reduceIte, reduceCtorEq, rs38, h5, h6, eq_true h7, eq_false h8, f_o1, f_o3]
     obtain rfl := Option.some.inj hg
     exact (hK  _ hE )
   ·refine Br.no h7 ?_
    simp only [EVA, reduceIte, reduceCtorEq, rs38, h5, h6, eq_false h7, f_o1, f_o3]
    obtain rfl := Option.some.inj hg
    exact (hK  _ hE )
 ·have h5 := Bool.eq_false_iff.2 h5
  simp only [EVA, reduceIte, reduceCtorEq, rs38, h5, f_o1, f_o3]
  obtain rfl := Option.some.inj hg
  exact (hK  _ hE )
/-- skymosaic/skymosaicref01.Words -/
def l96_1 (n : Nat) (l96_0_REC : List Int → Int → Option (List Int)) (a0 : List Int) (x1 : List Int) (x3 : Int) : Nat → Int → Int → Option (List Int)
 | 0, _, _ => none
 | k10 + 1, x8, x9 => if x3 ≤ x9 then (if (0 : Int) ≤ x9 ∧ x9 < (a0.length : Int) then ((l96_1 n l96_0_REC a0 x1 x3 k10) (IntKind.u64.wrap ((IntKind.u64.wrap (256 * x8)) + (IntKind.u64.wrap (rd a0 x9)))) (IntKind.i64.wrap (x9 - 1))) else none) else (if x1.length + 1 ≤ 17592186044416 then (l96_0_REC (x1 ++ ([x8] : List Int)) (IntKind.i64.wrap (x3 + 8))) else none)
def l96_0 (n : Nat) (a0 : List Int) : Nat → List Int → Int → Option (List Int)
 | 0, _, _ => none
 | k4 + 1, x1, x3 => if x3 < (a0.length : Int) then (l96_1 n (l96_0 n a0 k4) a0 x1 x3 n 0 (IntKind.i64.wrap ((if (a0.length : Int) < (IntKind.i64.wrap (x3 + 8)) then (a0.length : Int) else (IntKind.i64.wrap (x3 + 8))) - 1))) else (some x1)
theorem rs96 : Tryz.f96.results.toList = [.tmp 2] := rfl
def g96 (n : Nat) (a0 : List Int) : Option (List Int) := l96_0 n a0 n ([] : List Int) 0
theorem c96 (B : Nat) (w0 : World) (n : Nat) (a0 : List Int) (ta0 : Tail) (H : AHeap) (K : AV → AHeap → Prop) (r : (List Int)) (hg : g96 n a0 = some r)  (hK : ∀ (q0 : Tail) (H' : AHeap), Ext H H' → Free H H' q0 → K (.dl 1 (List.map (AV.int .u64) r) q0) H') : ACall Tryz.prog B w0 96 [.dl 1 (List.map (AV.int .u8) a0) ta0] H K := by
 refine ACall.wkR ?_
 unfold g96 at hg
 refine ACall.enter Tryz.func96 (by kernel_rfl) rfl (eawp_sound noY_sound _ _ _ _ ?_)
 have hE : Ext H H := Ext.refl H
 simp only [EVA, reduceIte, reduceCtorEq, Nat.reduceLT, Nat.reduceLeDiff, Int.reduceEq, Int.reduceLT, Int.reduceLE, Nat.reduceMul, Tryz.ntmps96, rs96, (show IntKind.i64.wrap 8 = 8 from rfl), (show IntKind.u64.wrap 0 = 0 from rfl)]
 refine AWP.loop (σ := Nat × List Int × Int × Tail) (fun s => [.dl 1 (List.map (AV.int .u8) a0) ta0, .undef, .undef, .dl 1 (List.map (AV.int .u64) s.2.1) s.2.2.2, .int .i64 s.2.2.1, .undef, .undef, .undef, .undef, .undef, .undef, .undef, .undef, .undef, .undef, .undef, .undef, .undef, .undef, .undef, .undef, .undef, .undef, .undef, .undef, .undef, .undef, .undef, .undef, .undef, .undef, .undef, .undef, .undef, .undef, .undef, .undef]) (fun s H' => l96_0 n a0 s.1 s.2.1 s.2.2.1 = some r ∧ Ext H H' ∧ Free H H' s.2.2.2) (fun s => s.1) ⟨⟨n, ([] : List Int), 0, .full⟩, (by repeat' first | exact Wk.nil | apply Wk.u | apply Wk.r | apply Wk.cons (wkV.nilf _ _)), ⟨hg, hE, (Free.full _ _)⟩⟩ ?_
 rintro ⟨k4, x1, x3, tl2⟩ H5 ⟨hg, hE, F6⟩ _
 try dsimp only at hg F6
 cases k4 with
 | zero => simp only [l96_0, reduceCtorEq] at hg
 | succ k4 =>
  rw [l96_0] at hg
  refine eawp_sound noY_sound _ _ _ _ ?_
  simp only [EVA, reduceIte, reduceCtorEq, Nat.reduceLT, Nat.reduceLeDiff, Int.reduceEq, Int.reduceLT, Int.reduceLE, Nat.reduceMul, (show IntKind.i64.wrap 8 = 8 from rfl), (show IntKind.u64.wrap 0 = 0 from rfl)]
  rcases ite_some hg with ⟨h7, hg⟩ | ⟨h7, hg⟩
  ·refine Br.yes h7 ?_
   simp only [EVA, reduceIte, reduceCtorEq, Nat.reduceLT, Nat.reduceLeDiff, Int.reduceEq, Int.reduceLT, Int.reduceLE, Nat.reduceMul, eq_true h7, (show IntKind.i64.wrap 8 = 8 from rfl), (show IntKind.u64.wrap 0 = 0 from rfl)]
   refine AWP.loop (σ := Nat × Int × Int) (fun s => [.dl 1 (List.map (AV.int .u8) a0) ta0, .undef, .undef, .dl 1 (List.map (AV.int .u64) x1) tl2, .int .i64 x3, .int .u64 s.2.1, .int .i64 s.2.2, .undef, .undef, .undef, .undef, .undef, .undef, .undef, .undef, .undef, .undef, .undef, .undef, .undef, .undef, .undef, .undef, .undef, .undef, .undef, .undef, .undef, .undef, .undef, .undef, .undef, .undef, .undef, .undef, .undef, .undef]) (fun s H' => l96_1 n (l96_0 n a0 k4) a0 x1 x3 s.1 s.2.1 s.2.2 = some r ∧ SameH H5 H') (fun s => s.1) ⟨⟨n, 0, IntKind.i64.wrap ((if (a0.length : Int) < (IntKind.i64.wrap (x3 + 8)) then (a0.length : Int) else (IntKind.i64.wrap (x3 + 8))) - 1)⟩, (by repeat' first | exact Wk.nil | apply Wk.u | apply Wk.r), ⟨hg, (rfl : SameH _ _)⟩⟩ ?_
   rintro ⟨k10, x8, x9⟩ H11 ⟨hg, hH9⟩ _
   unfold SameH at hH9
   subst hH9
   try dsimp only at hg
   cases k10 with
   | zero => simp only [l96_1, reduceCtorEq] at hg
   | succ k10 =>
    rw [l96_1] at hg
    refine eawp_sound noY_sound _ _ _ _ ?_
    simp only [EVA, reduceIte, reduceCtorEq, Nat.reduceLT, Nat.reduceLeDiff, Int.reduceEq, Int.reduceLT, Int.reduceLE, Nat.reduceMul, eq_true h7, (show IntKind.i64.wrap 8 = 8 from rfl), (show IntKind.u64.wrap 0 = 0 from rfl)]
    rcases ite_some hg with ⟨h12, hg⟩ | ⟨h12, hg⟩
    ·refine Br.yes h12 ?_
     obtain ⟨h13, hg⟩ := guard_some hg
     have q14 : List.getD (List.map (AV.int .u8) a0) (Int.toNat x9) AV.undef = (AV.int .u8) (rd a0 x9) := rd_map (l := a0) (i := x9) (AV.int .u8) h13
     simp only [EVA, reduceIte, reduceCtorEq, Nat.reduceLT, Nat.reduceLeDiff, Int.reduceEq, Int.reduceLT, Int.reduceLE, Nat.reduceMul, eq_true h7, eq_true h12, eq_true h13.1, eq_true h13.2, q14, (show IntKind.i64.wrap 8 = 8 from rfl), (show IntKind.u64.wrap 0 = 0 from rfl)]
     exact ⟨⟨k10, IntKind.u64.wrap ((IntKind.u64.wrap (256 * x8)) + (IntKind.u64.wrap (rd a0 x9))), IntKind.i64.wrap (x9 - 1)⟩, (by repeat' first | exact Wk.nil | apply Wk.u | apply Wk.r), ⟨hg, (rfl : SameH _ _)⟩, Nat.lt_succ_self _⟩
    ·refine Br.no h12 ?_
     simp only [EVA, reduceIte, reduceCtorEq, Nat.reduceLT, Nat.reduceLeDiff, Int.reduceEq, Int.reduceLT, Int.reduceLE, Nat.reduceMul, eq_true h7, eq_false h12, (show IntKind.i64.wrap 8 = 8 from rfl), (show IntKind.u64.wrap 0 = 0 from rfl)]
     obtain ⟨h20, hg⟩ := guard_some hg
     refine AppE.goM (H0 := H) (AV.int .u64) x1 ([x8] : List Int) (n := 17592186044416) ty27 rfl ty53 rfl rfl (by decide) (.dl 1 [.int .u64 x8] .full) (wkD.refl _) (srcA_dl ty27 rfl) (.inl rfl) h20 (by decide) (by decide) hE F6 ?_
     intro tl15 H16 hE F17 p18 q19 l9
     simp only [EVA, reduceIte, reduceCtorEq, Nat.reduceLT, Nat.reduceLeDiff, Int.reduceEq, Int.reduceLT, Int.reduceLE, Nat.reduceMul, eq_true h7, eq_false h12, (show IntKind.i64.wrap 8 = 8 from rfl), (show IntKind.u64.wrap 0 = 0 from rfl)]
     exact ⟨⟨k4, x1 ++ ([x8] : List Int), IntKind.i64.wrap (x3 + 8), tl15⟩, (by repeat' first | exact Wk.nil | apply Wk.u | apply Wk.r), ⟨hg, hE, F17⟩, Nat.lt_succ_self _⟩
  ·refine Br.no h7 ?_
   simp only [EVA, reduceIte, reduceCtorEq, Nat.reduceLT, Nat.reduceLeDiff, Int.reduceEq, Int.reduceLT, Int.reduceLE, Nat.reduceMul, rs96, eq_false h7, (show IntKind.i64.wrap 8 = 8 from rfl), (show IntKind.u64.wrap 0 = 0 from rfl)]
   obtain rfl := Option.some.inj hg
   exact ⟨_, (wkR.a (wkA.refl _)), (hK tl2 _ hE F6)⟩
/-- skymosaic/skymosaicref01.mix -/
theorem rs97 : Tryz.f97.results.toList = [.tmp 4] := rfl
def g97 (n : Nat) (a0 : Int) (a1 : Int) : Option (Int) := some (bitsA .xor .u64 (IntKind.u64.wrap ((bitsA .xor .u64 a0 a1) * 11400714819323198485)) (IntKind.u64.wrap (Int.tdiv (IntKind.u64.wrap ((bitsA .xor .u64 a0 a1) * 11400714819323198485)) 4294967296)))
theorem c97 (B : Nat) (w0 : World) (n : Nat) (a0 : Int) (a1 : Int) (H : AHeap) (K : AV → AHeap → Prop) (r : (Int)) (hg : g97 n a0 a1 = some r)  (hK : K (.int .u64 r) H) : ACall Tryz.prog B w0 97 [.int .u64 a0, .int .u64 a1] H K := by
 unfold g97 at hg
 refine ACall.enter Tryz.func97 (by kernel_rfl) rfl (eawp_sound noY_sound _ _ _ _ ?_)
 have hE : Ext H H := Ext.refl H
 simp only [EVA, reduceIte, reduceCtorEq, Nat.reduceLT, Nat.reduceLeDiff, Int.reduceEq, Int.reduceLT, Int.reduceLE, Nat.reduceMul, Tryz.ntmps97, rs97, rs97]
 obtain rfl := Option.some.inj hg
 exact hK
/-- skymosaic/skymosaicref01.Sum -/
def l71_1 (n : Nat) (a1 : List Int) : Nat → Int → Int → Option (Int)
 | 0, _, _ => none
 | k22 + 1, x20, x21 => if x21 < (a1.length : Int) then (if (0 : Int) ≤ x21 ∧ x21 < (a1.length : Int) then ((g97 n x20 (IntKind.u64.wrap (rd a1 x21))).bind fun v27 => (l71_1 n a1 k22) v27 (IntKind.i64.wrap (x21 + 1))) else none) else ((g97 n x20 0).bind fun v29 => some v29)
def l71_0 (n : Nat) (a0 : (List UInt8)) (a1 : List Int) (v1 : (List Int)) : Nat → Int → Int → Option (Int)
 | 0, _, _ => none
 | k9 + 1, x7, x8 => if x8 < (v1.length : Int) then (if (0 : Int) ≤ x8 ∧ x8 < (v1.length : Int) then ((g97 n x7 (rd v1 x8)).bind fun v14 => (l71_0 n a0 a1 v1 k9) v14 (IntKind.i64.wrap (x8 + 1))) else none) else ((g97 n x7 (IntKind.u64.wrap (a0.length : Int))).bind fun v16 => (g97 n v16 (IntKind.u64.wrap (a1.length : Int))).bind fun v18 => l71_1 n a1 n v18 0)
theorem rs71 : Tryz.f71.results.toList = [.tmp 4] := rfl
def g71 (n : Nat) (a0 : (List UInt8)) (a1 : List Int) : Option (Int) := (g96 n (bytesOf a0)).bind fun v1 => l71_0 n a0 a1 v1 n 0 0
theorem c71 (B : Nat) (w0 : World) (n : Nat) (a0 : (List UInt8)) (a1 : List Int) (ta1 : Tail) (H : AHeap) (K : AV → AHeap → Prop) (r : (Int)) (hg : g71 n a0 a1 = some r)  (hK : ∀ (H' : AHeap), Ext H H' → K (.int .u64 r) H') : ACall Tryz.prog B w0 71 [.str a0, .dl 1 (List.map (AV.int .i64) a1) ta1] H K := by
 unfold g71 at hg
 refine ACall.enter Tryz.func71 (by kernel_rfl) rfl (eawp_sound noY_sound _ _ _ _ ?_)
 have hE : Ext H H := Ext.refl H
 simp only [EVA, reduceIte, reduceCtorEq, Tryz.ntmps71, rs71, (show IntKind.i64.wrap 1 = 1 from rfl)]
 obtain ⟨v1, ch2, hg⟩ := bind_some hg
 refine ACall.wkA (args := [.dl 1 (List.map (AV.int .u8) (bytesOf a0)) .none]) (c96 B w0 n (bytesOf a0) .none _ _ v1 ch2  ?_) (WkA.r WkA.nil)
 intro tl3 H4 x5 F6
 have F6 := F6.low hE
 have hE := hE.trans x5
 simp only [EVA, reduceIte, reduceCtorEq, (show IntKind.i64.wrap 1 = 1 from rfl)]
 refine AWP.loop (σ := Nat × Int × Int) (fun s => [.str a0, .dl 1 (List.map (AV.int .i64) a1) ta1, .undef, .undef, .undef, .int .u64 s.2.1, .dl 1 (List.map (AV.int .u64) v1) tl3, .int .i64 s.2.2, .undef, .undef, .undef, .undef, .undef, .undef, .undef, .undef, .undef, .undef, .undef, .undef, .undef, .undef, .undef, .undef, .undef, .undef, .undef, .undef, .undef, .undef, .undef, .undef, .undef, .undef, .undef, .undef, .undef, .undef, .undef, .undef, .undef, .undef, .undef, .undef, .undef, .undef, .undef, .undef, .undef]) (fun s H' => l71_0 n a0 a1 v1 s.1 s.2.1 s.2.2 = some r ∧ SameH H4 H') (fun s => s.1) ⟨⟨n, 0, 0⟩, (by repeat' first | exact Wk.nil | apply Wk.u | apply Wk.r), ⟨hg, (rfl : SameH _ _)⟩⟩ ?_
 rintro ⟨k9, x7, x8⟩ H10 ⟨hg, hH9⟩ _
 unfold SameH at hH9
 subst hH9
 try dsimp only at hg
 cases k9 with
 | zero => simp only [l71_0, reduceCtorEq] at hg
 | succ k9 =>
  rw [l71_0] at hg
  refine eawp_sound noY_sound _ _ _ _ ?_
  simp only [EVA, reduceIte, reduceCtorEq, (show IntKind.i64.wrap 1 = 1 from rfl)]
  rcases ite_some hg with ⟨h11, hg⟩ | ⟨h11, hg⟩
  ·refine Br.yes h11 ?_
   obtain ⟨h12, hg⟩ := guard_some hg
   have q13 : List.getD (List.map (AV.int .u64) v1) (Int.toNat x8) AV.undef = (AV.int .u64) (rd v1 x8) := rd_map (l := v1) (i := x8) (AV.int .u64) h12
   simp only [EVA, reduceIte, reduceCtorEq, eq_true h11, eq_true h12.1, eq_true h12.2, q13, (show IntKind.i64.wrap 1 = 1 from rfl)]
   obtain ⟨v14, ch15, hg⟩ := bind_some hg
   refine ACall.wkA (args := [.int .u64 x7, .int .u64 (rd v1 x8)]) (c97 B w0 n x7 (rd v1 x8) _ _ v14 ch15  ?_) (WkA.r (WkA.r WkA.nil))
   simp only [EVA, reduceIte, reduceCtorEq, eq_true h11, eq_true h12.1, eq_true h12.2, q13, (show IntKind.i64.wrap 1 = 1 from rfl)]
   exact ⟨⟨k9, v14, IntKind.i64.wrap (x8 + 1)⟩, (by repeat' first | exact Wk.nil | apply Wk.u | apply Wk.r), ⟨hg, (rfl : SameH _ _)⟩, Nat.lt_succ_self _⟩
  ·refine Br.no h11 ?_
   simp only [EVA, reduceIte, reduceCtorEq, eq_false h11, (show IntKind.i64.wrap 1 = 1 from rfl)]
   obtain ⟨v16, ch17, hg⟩ := bind_some hg
   refine ACall.wkA (args := [.int .u64 x7, .int .u64 (IntKind.u64.wrap (a0.length : Int))]) (c97 B w0 n x7 (IntKind.u64.wrap (a0.length : Int)) _ _ v16 ch17  ?_) (WkA.r (WkA.r WkA.nil))
   simp only [EVA, reduceIte, reduceCtorEq, eq_false h11, (show IntKind.i64.wrap 1 = 1 from rfl)]
   obtain ⟨v18, ch19, hg⟩ := bind_some hg
   refine ACall.wkA (args := [.int .u64 v16, .int .u64 (IntKind.u64.wrap (a1.length : Int))]) (c97 B w0 n v16 (IntKind.u64.wrap (a1.length : Int)) _ _ v18 ch19  ?_) (WkA.r (WkA.r WkA.nil))
   simp only [EVA, reduceIte, reduceCtorEq, eq_false h11, (show IntKind.i64.wrap 1 = 1 from rfl)]
   refine AWP.loop (σ := Nat × Int × Int) (fun s => [.undef, .dl 1 (List.map (AV.int .i64) a1) ta1, .undef, .undef, .undef, .int .u64 s.2.1, .undef, .undef, .int .i64 s.2.2, .undef, .undef, .undef, .undef, .undef, .undef, .undef, .undef, .undef, .undef, .undef, .undef, .undef, .undef, .undef, .undef, .undef, .undef, .undef, .undef, .undef, .undef, .undef, .undef, .undef, .undef, .undef, .undef, .undef, .undef, .undef, .undef, .undef, .undef, .undef, .undef, .undef, .undef, .undef, .undef]) (fun s H' => l71_1 n a1 s.1 s.2.1 s.2.2 = some r ∧ SameH H4 H') (fun s => s.1) ⟨⟨n, v18, 0⟩, (by repeat' first | exact Wk.nil | apply Wk.u | apply Wk.r), ⟨hg, (rfl : SameH _ _)⟩⟩ ?_
   rintro ⟨k22, x20, x21⟩ H23 ⟨hg, hH9⟩ _
   unfold SameH at hH9
   subst hH9
   try dsimp only at hg
   cases k22 with
   | zero => simp only [l71_1, reduceCtorEq] at hg
   | succ k22 =>
    rw [l71_1] at hg
    refine eawp_sound noY_sound _ _ _ _ ?_
    simp only [EVA, reduceIte, reduceCtorEq, eq_false h11, (show IntKind.i64.wrap 1 = 1 from rfl)]
    rcases ite_some hg with ⟨h24, hg⟩ | ⟨h24, hg⟩
    ·refine Br.yes h24 ?_
     obtain ⟨h25, hg⟩ := guard_some hg
     have q26 : List.getD (List.map (AV.int .i64) a1) (Int.toNat x21) AV.undef = (AV.int .i64) (rd a1 x21) := rd_map (l := a1) (i := x21) (AV.int .i64) h25
     simp only [EVA, reduceIte, reduceCtorEq, eq_false h11, eq_true h24, eq_true h25.1, eq_true h25.2, q26, (show IntKind.i64.wrap 1 = 1 from rfl)]
     obtain ⟨v27, ch28, hg⟩ := bind_some hg
     refine ACall.wkA (args := [.int .u64 x20, .int .u64 (IntKind.u64.wrap (rd a1 x21))]) (c97 B w0 n x20 (IntKind.u64.wrap (rd a1 x21)) _ _ v27 ch28  ?_) (WkA.r (WkA.r WkA.nil))
     simp only [EVA, reduceIte, reduceCtorEq, eq_false h11, eq_true h24, eq_true h25.1, eq_true h25.2, q26, (show IntKind.i64.wrap 1 = 1 from rfl)]
     exact ⟨⟨k22, v27, IntKind.i64.wrap (x21 + 1)⟩, (by repeat' first | exact Wk.nil | apply Wk.u | apply Wk.r), ⟨hg, (rfl : SameH _ _)⟩, Nat.lt_succ_self _⟩
    ·refine Br.no h24 ?_
     simp only [EVA, reduceIte, reduceCtorEq, eq_false h11, eq_false h24, (show IntKind.i64.wrap 1 = 1 from rfl)]
     obtain ⟨v29, ch30, hg⟩ := bind_some hg
     refine ACall.wkA (args := [.int .u64 x20, .int .u64 0]) (c97 B w0 n x20 0 _ _ v29 ch30  ?_) (WkA.r (WkA.r WkA.nil))
     simp only [EVA, reduceIte, reduceCtorEq, rs71, eq_false h11, eq_false h24, (show IntKind.i64.wrap 1 = 1 from rfl)]
     obtain rfl := Option.some.inj hg
     exact (hK  _ hE )
/-- skymosaic/skymosaicref01.Pair -/
theorem rs72 : Tryz.f72.results.toList = [.tmp 4] := rfl
def g72 (n : Nat) (a0 : Int) (a1 : Int) : Option (Int) := (g71 n ([112, 97, 105, 114]) ([IntKind.i64.wrap a0, IntKind.i64.wrap a1] : List Int)).bind fun v1 => some v1
theorem c72 (B : Nat) (w0 : World) (n : Nat) (a0 : Int) (a1 : Int) (H : AHeap) (K : AV → AHeap → Prop) (r : (Int)) (hg : g72 n a0 a1 = some r)  (hK : ∀ (H' : AHeap), Ext H H' → K (.int .u64 r) H') : ACall Tryz.prog B w0 72 [.int .u64 a0, .int .u64 a1] H K := by
 unfold g72 at hg
 refine ACall.enter Tryz.func72 (by kernel_rfl) rfl (eawp_sound noY_sound _ _ _ _ ?_)
 have hE : Ext H H := Ext.refl H
 simp only [EVA, reduceIte, reduceCtorEq, Nat.reduceLT, Nat.reduceLeDiff, Int.reduceEq, Int.reduceLT, Int.reduceLE, Nat.reduceMul, Tryz.ntmps72, rs72]
 obtain ⟨v1, ch2, hg⟩ := bind_some hg
 refine ACall.wkA (args := [.str ([112, 97, 105, 114]), .dl 1 (List.map (AV.int .i64) ([IntKind.i64.wrap a0, IntKind.i64.wrap a1] : List Int)) .full]) (c71 B w0 n ([112, 97, 105, 114]) ([IntKind.i64.wrap a0, IntKind.i64.wrap a1] : List Int) .full _ _ v1 ch2  ?_) (WkA.r (WkA.r WkA.nil))
 intro H3 x4
 have hE := hE.trans x4
 simp only [EVA, reduceIte, reduceCtorEq, Nat.reduceLT, Nat.reduceLeDiff, Int.reduceEq, Int.reduceLT, Int.reduceLE, Nat.reduceMul, rs72]
 obtain rfl := Option.some.inj hg
 exact (hK  _ hE )
/-- skymosaic/skymosaicref01.Bytes -/
def l73_0 (n : Nat) (a0 : (List UInt8)) (a1 : List Int) (v1 : (List Int)) : Nat → List Int → Int → Option (Int)
 | 0, _, _ => none
 | k10 + 1, x7, x9 => if x9 < (v1.length : Int) then (if (0 : Int) ≤ x9 ∧ x9 < (v1.length : Int) then (if x7.length + 1 ≤ 17592186044416 then ((l73_0 n a0 a1 v1 k10) (x7 ++ ([IntKind.i64.wrap (rd v1 x9)] : List Int)) (IntKind.i64.wrap (x9 + 1))) else none) else none) else (if x7.length + 1 ≤ 17592186044416 then ((g71 n a0 (x7 ++ ([(a1.length : Int)] : List Int))).bind fun v32 => some v32) else none)
theorem rs73 : Tryz.f73.results.toList = [.tmp 4] := rfl
def g73 (n : Nat) (a0 : (List UInt8)) (a1 : List Int) : Option (Int) := (g96 n a1).bind fun v1 => l73_0 n a0 a1 v1 n ([] : List Int) 0
theorem c73 (B : Nat) (w0 : World) (n : Nat) (a0 : (List UInt8)) (a1 : List Int) (ta1 : Tail) (H : AHeap) (K : AV → AHeap → Prop) (r : (Int)) (hg : g73 n a0 a1 = some r)  (hK : ∀ (H' : AHeap), Ext H H' → K (.int .u64 r) H') : ACall Tryz.prog B w0 73 [.str a0, .dl 1 (List.map (AV.int .u8) a1) ta1] H K := by
 unfold g73 at hg
 refine ACall.enter Tryz.func73 (by kernel_rfl) rfl (eawp_sound noY_sound _ _ _ _ ?_)
 have hE : Ext H H := Ext.refl H
 simp only [EVA, reduceIte, reduceCtorEq, Nat.reduceLT, Nat.reduceLeDiff, Int.reduceEq, Int.reduceLT, Int.reduceLE, Nat.reduceMul, Tryz.ntmps73, rs73, (show IntKind.i64.wrap 1 = 1 from rfl)]
 obtain ⟨v1, ch2, hg⟩ := bind_some hg
 refine ACall.wkA (args := [.dl 1 (List.map (AV.int .u8) a1) ta1]) (c96 B w0 n a1 ta1 _ _ v1 ch2  ?_) (WkA.r WkA.nil)
 intro tl3 H4 x5 F6
 have F6 := F6.low hE
 have hE := hE.trans x5
 simp only [EVA, reduceIte, reduceCtorEq, Nat.reduceLT, Nat.reduceLeDiff, Int.reduceEq, Int.reduceLT, Int.reduceLE, Nat.reduceMul, (show IntKind.i64.wrap 1 = 1 from rfl)]
 refine AWP.loop (σ := Nat × List Int × Int × Tail) (fun s => [.str a0, .dl 1 (List.map (AV.int .u8) a1) ta1, .undef, .undef, .undef, .dl 1 (List.map (AV.int .u64) v1) tl3, .dl 1 (List.map (AV.int .i64) s.2.1) s.2.2.2, .int .i64 s.2.2.1, .undef, .undef, .undef, .undef, .undef, .undef, .undef, .undef, .undef, .undef, .undef, .undef, .undef, .undef, .undef, .undef, .undef, .undef, .undef, .undef, .undef, .undef, .undef]) (fun s H' => l73_0 n a0 a1 v1 s.1 s.2.1 s.2.2.1 = some r ∧ Ext H H' ∧ Free H H' tl3 ∧ Free H H' s.2.2.2 ∧ tlNe tl3 s.2.2.2) (fun s => s.1) ⟨⟨n, ([] : List Int), 0, .full⟩, (by repeat' first | exact Wk.nil | apply Wk.u | apply Wk.r | apply Wk.cons (wkV.nilf _ _)), ⟨hg, hE, F6, (Free.full _ _), (tlNe.full' _)⟩⟩ ?_
 rintro ⟨k10, x7, x9, tl8⟩ H11 ⟨hg, hE, F12, F13, D14⟩ _
 try dsimp only at hg F12 F13 D14
 cases k10 with
 | zero => simp only [l73_0, reduceCtorEq] at hg
 | succ k10 =>
  rw [l73_0] at hg
  refine eawp_sound noY_sound _ _ _ _ ?_
  simp only [EVA, reduceIte, reduceCtorEq, Nat.reduceLT, Nat.reduceLeDiff, Int.reduceEq, Int.reduceLT, Int.reduceLE, Nat.reduceMul, (show IntKind.i64.wrap 1 = 1 from rfl)]
  rcases ite_some hg with ⟨h15, hg⟩ | ⟨h15, hg⟩
  ·refine Br.yes h15 ?_
   obtain ⟨h16, hg⟩ := guard_some hg
   have q17 : List.getD (List.map (AV.int .u64) v1) (Int.toNat x9) AV.undef = (AV.int .u64) (rd v1 x9) := rd_map (l := v1) (i := x9) (AV.int .u64) h16
   simp only [EVA, reduceIte, reduceCtorEq, Nat.reduceLT, Nat.reduceLeDiff, Int.reduceEq, Int.reduceLT, Int.reduceLE, Nat.reduceMul, eq_true h15, eq_true h16.1, eq_true h16.2, q17, (show IntKind.i64.wrap 1 = 1 from rfl)]
   obtain ⟨h23, hg⟩ := guard_some hg
   refine AppE.goM (H0 := H) (AV.int .i64) x7 ([IntKind.i64.wrap (rd v1 x9)] : List Int) (n := 17592186044416) ty22 rfl ty3 rfl rfl (by decide) (.dl 1 [.int .i64 (IntKind.i64.wrap (rd v1 x9))] .full) (wkD.refl _) (srcA_dl ty22 rfl) (.inl rfl) h23 (by decide) (by decide) hE F13 ?_
   intro tl18 H19 hE F20 p21 q22 l9
   obtain ⟨F12, D24⟩ := q22 _ F12 D14.symm
   simp only [EVA, reduceIte, reduceCtorEq, Nat.reduceLT, Nat.reduceLeDiff, Int.reduceEq, Int.reduceLT, Int.reduceLE, Nat.reduceMul, eq_true h15, eq_true h16.1, eq_true h16.2, q17, (show IntKind.i64.wrap 1 = 1 from rfl)]
   exact ⟨⟨k10, x7 ++ ([IntKind.i64.wrap (rd v1 x9)] : List Int), IntKind.i64.wrap (x9 + 1), tl18⟩, (by repeat' first | exact Wk.nil | apply Wk.u | apply Wk.r), ⟨hg, hE, F12, F20, D24.symm⟩, Nat.lt_succ_self _⟩
  ·refine Br.no h15 ?_
   simp only [EVA, reduceIte, reduceCtorEq, Nat.reduceLT, Nat.reduceLeDiff, Int.reduceEq, Int.reduceLT, Int.reduceLE, Nat.reduceMul, eq_false h15, (show IntKind.i64.wrap 1 = 1 from rfl)]
   obtain ⟨h30, hg⟩ := guard_some hg
   refine AppE.goM (H0 := H) (AV.int .i64) x7 ([(a1.length : Int)] : List Int) (n := 17592186044416) ty22 rfl ty3 rfl rfl (by decide) (.dl 1 [.int .i64 (a1.length : Int)] .full) (wkD.refl _) (srcA_dl ty22 rfl) (.inl rfl) h30 (by decide) (by decide) hE F13 ?_
   intro tl25 H26 hE F27 p28 q29 l9
   obtain ⟨F12, D31⟩ := q29 _ F12 D14.symm
   simp only [EVA, reduceIte, reduceCtorEq, Nat.reduceLT, Nat.reduceLeDiff, Int.reduceEq, Int.reduceLT, Int.reduceLE, Nat.reduceMul, eq_false h15, (show IntKind.i64.wrap 1 = 1 from rfl)]
   obtain ⟨v32, ch33, hg⟩ := bind_some hg
   refine ACall.wkA (args := [.str a0, .dl 1 (List.map (AV.int .i64) (x7 ++ ([(a1.length : Int)] : List Int))) tl25]) (c71 B w0 n a0 (x7 ++ ([(a1.length : Int)] : List Int)) tl25 _ _ v32 ch33  ?_) (WkA.r (WkA.r WkA.nil))
   intro H34 x35
   have F12 := F12.mono x35
   have F27 := F27.mono x35
   have hE := hE.trans x35
   simp only [EVA, reduceIte, reduceCtorEq, Nat.reduceLT, Nat.reduceLeDiff, Int.reduceEq, Int.reduceLT, Int.reduceLE, Nat.reduceMul, rs73, eq_false h15, (show IntKind.i64.wrap 1 = 1 from rfl)]
   obtain rfl := Option.some.inj hg
   exact (hK  _ hE )
/-- skymosaic/skymosaicref02.Uint -/
def l86_0 (n : Nat) : Nat → Int → List Int → Option (List Int)
 | 0, _, _ => none
 | k4 + 1, x1, x2 => if 127 < x1 then (if x2.length + 1 ≤ 140737488355328 then ((l86_0 n k4) (IntKind.u64.wrap (Int.tdiv x1 128)) (x2 ++ ([IntKind.u8.wrap (IntKind.u64.wrap (128 + (Int.tmod x1 128)))] : List Int))) else none) else (if x2.length + 1 ≤ 140737488355328 then (some (x2 ++ ([IntKind.u8.wrap x1] : List Int))) else none)
theorem rs86 : Tryz.f86.results.toList = [.tmp 2] := rfl
def g86 (n : Nat) (a0 : Int) : Option (List Int) := l86_0 n n a0 ([] : List Int)
theorem c86 (B : Nat) (w0 : World) (n : Nat) (a0 : Int) (H : AHeap) (K : AV → AHeap → Prop) (r : (List Int)) (hg : g86 n a0 = some r)  (hK : ∀ (q0 : Tail) (H' : AHeap), Ext H H' → Free H H' q0 → K (.dl 1 (List.map (AV.int .u8) r) q0) H') : ACall Tryz.prog B w0 86 [.int .u64 a0] H K := by
 refine ACall.wkR ?_
 unfold g86 at hg
 refine ACall.enter Tryz.func86 (by kernel_rfl) rfl (eawp_sound noY_sound _ _ _ _ ?_)
 have hE : Ext H H := Ext.refl H
 simp only [EVA, reduceIte, reduceCtorEq, Nat.reduceLT, Nat.reduceLeDiff, Int.reduceEq, Int.reduceLT, Int.reduceLE, Nat.reduceMul, Tryz.ntmps86, rs86]
 refine AWP.loop (σ := Nat × Int × List Int × Tail) (fun s => [.int .u64 s.2.1, .undef, .undef, .dl 1 (List.map (AV.int .u8) s.2.2.1) s.2.2.2, .undef, .undef, .undef, .undef, .undef, .undef, .undef, .undef, .undef, .undef, .undef, .undef, .undef, .undef, .undef, .undef]) (fun s H' => l86_0 n s.1 s.2.1 s.2.2.1 = some r ∧ Ext H H' ∧ Free H H' s.2.2.2) (fun s => s.1) ⟨⟨n, a0, ([] : List Int), .full⟩, (by repeat' first | exact Wk.nil | apply Wk.u | apply Wk.r | apply Wk.cons (wkV.nilf _ _)), ⟨hg, hE, (Free.full _ _)⟩⟩ ?_
 rintro ⟨k4, x1, x2, tl3⟩ H5 ⟨hg, hE, F6⟩ _
 try dsimp only at hg F6
 cases k4 with
 | zero => simp only [l86_0, reduceCtorEq] at hg
 | succ k4 =>
  rw [l86_0] at hg
  refine eawp_sound noY_sound _ _ _ _ ?_
  simp only [EVA, reduceIte, reduceCtorEq, Nat.reduceLT, Nat.reduceLeDiff, Int.reduceEq, Int.reduceLT, Int.reduceLE, Nat.reduceMul]
  rcases ite_some hg with ⟨h7, hg⟩ | ⟨h7, hg⟩
  ·refine Br.yes h7 ?_
   simp only [EVA, reduceIte, reduceCtorEq, Nat.reduceLT, Nat.reduceLeDiff, Int.reduceEq, Int.reduceLT, Int.reduceLE, Nat.reduceMul, eq_true h7]
   obtain ⟨h13, hg⟩ := guard_some hg
   refine AppE.goM (H0 := H) (AV.int .u8) x2 ([IntKind.u8.wrap (IntKind.u64.wrap (128 + (Int.tmod x1 128)))] : List Int) (n := 140737488355328) ty67 rfl ty5 rfl rfl (by decide) (.dl 1 [.int .u8 (IntKind.u8.wrap (IntKind.u64.wrap (128 + (Int.tmod x1 128))))] .full) (wkD.refl _) (srcA_dl ty67 rfl) (.inl rfl) h13 (by decide) (by decide) hE F6 ?_
   intro tl8 H9 hE F10 p11 q12 l9
   simp only [EVA, reduceIte, reduceCtorEq, Nat.reduceLT, Nat.reduceLeDiff, Int.reduceEq, Int.reduceLT, Int.reduceLE, Nat.reduceMul, eq_true h7]
   exact ⟨⟨k4, IntKind.u64.wrap (Int.tdiv x1 128), x2 ++ ([IntKind.u8.wrap (IntKind.u64.wrap (128 + (Int.tmod x1 128)))] : List Int), tl8⟩, (by repeat' first | exact Wk.nil | apply Wk.u | apply Wk.r), ⟨hg, hE, F10⟩, Nat.lt_succ_self _⟩
  ·refine Br.no h7 ?_
   simp only [EVA, reduceIte, reduceCtorEq, Nat.reduceLT, Nat.reduceLeDiff, Int.reduceEq, Int.reduceLT, Int.reduceLE, Nat.reduceMul, eq_false h7]
   obtain ⟨h19, hg⟩ := guard_some hg
   refine AppE.goM (H0 := H) (AV.int .u8) x2 ([IntKind.u8.wrap x1] : List Int) (n := 140737488355328) ty67 rfl ty5 rfl rfl (by decide) (.dl 1 [.int .u8 (IntKind.u8.wrap x1)] .full) (wkD.refl _) (srcA_dl ty67 rfl) (.inl rfl) h19 (by decide) (by decide) hE F6 ?_
   intro tl14 H15 hE F16 p17 q18 l9
   simp only [EVA, reduceIte, reduceCtorEq, Nat.reduceLT, Nat.reduceLeDiff, Int.reduceEq, Int.reduceLT, Int.reduceLE, Nat.reduceMul, rs86, eq_false h7]
   obtain rfl := Option.some.inj hg
   exact ⟨_, (wkR.a (wkA.refl _)), (hK tl14 _ hE F16)⟩
/-- skymosaic/skymosaicref02.Zigzag -/
theorem rs87 : Tryz.f87.results.toList = [.tmp 2] := rfl
def g87 (n : Nat) (a0 : Int) : Option (Int) := if a0 < 0 then (some (IntKind.u64.wrap ((IntKind.u64.wrap (2 * (IntKind.u64.wrap (IntKind.i64.wrap (0 - (IntKind.i64.wrap (a0 + 1))))))) + 1))) else (some (IntKind.u64.wrap (2 * (IntKind.u64.wrap a0))))
theorem c87 (B : Nat) (w0 : World) (n : Nat) (a0 : Int) (H : AHeap) (K : AV → AHeap → Prop) (r : (Int)) (hg : g87 n a0 = some r)  (hK : K (.int .u64 r) H) : ACall Tryz.prog B w0 87 [.int .i64 a0] H K := by
 unfold g87 at hg
 refine ACall.enter Tryz.func87 (by kernel_rfl) rfl (eawp_sound noY_sound _ _ _ _ ?_)
 have hE : Ext H H := Ext.refl H
 simp only [EVA, reduceIte, reduceCtorEq, Tryz.ntmps87, rs87]
 rcases ite_some hg with ⟨h1, hg⟩ | ⟨h1, hg⟩
 ·refine Br.yes h1 ?_
  simp only [EVA, reduceIte, reduceCtorEq, rs87, eq_true h1]
  obtain rfl := Option.some.inj hg
  exact hK
 ·refine Br.no h1 ?_
  simp only [EVA, reduceIte, reduceCtorEq, rs87, eq_false h1]
  obtain rfl := Option.some.inj hg
  exact hK
/-- skymosaic/skymosaicref02.Int -/
theorem rs58 : Tryz.f58.results.toList = [.tmp 2] := rfl
def g58 (n : Nat) (a0 : Int) : Option (List Int) := (g87 n a0).bind fun v1 => (g86 n v1).bind fun v3 => some v3
theorem c58 (B : Nat) (w0 : World) (n : Nat) (a0 : Int) (H : AHeap) (K : AV → AHeap → Prop) (r : (List Int)) (hg : g58 n a0 = some r)  (hK : ∀ (q0 : Tail) (H' : AHeap), Ext H H' → Free H H' q0 → K (.dl 1 (List.map (AV.int .u8) r) q0) H') : ACall Tryz.prog B w0 58 [.int .i64 a0] H K := by
 refine ACall.wkR ?_
 unfold g58 at hg
 refine ACall.enter Tryz.func58 (by kernel_rfl) rfl (eawp_sound noY_sound _ _ _ _ ?_)
 have hE : Ext H H := Ext.refl H
 simp only [EVA, reduceIte, reduceCtorEq, Tryz.ntmps58, rs58]
 obtain ⟨v1, ch2, hg⟩ := bind_some hg
 refine ACall.wkA (args := [.int .i64 a0]) (c87 B w0 n a0 _ _ v1 ch2  ?_) (WkA.r WkA.nil)
 simp only [EVA, reduceIte, reduceCtorEq]
 obtain ⟨v3, ch4, hg⟩ := bind_some hg
 refine ACall.wkA (args := [.int .u64 v1]) (c86 B w0 n v1 _ _ v3 ch4  ?_) (WkA.r WkA.nil)
 intro tl5 H6 x7 F8
 have F8 := F8.low hE
 have hE := hE.trans x7
 simp only [EVA, reduceIte, reduceCtorEq, rs58]
 obtain rfl := Option.some.inj hg
 exact ⟨_, (wkR.a (wkA.refl _)), (hK tl5 _ hE F8)⟩
/-- skymosaic/skymosaicref37.list -/
def l98_0 (n : Nat) (a0 : List Int) : Nat → List Int → Int → Option (List Int)
 | 0, _, _ => none
 | k10 + 1, x7, x9 => if x9 < (a0.length : Int) then (if (0 : Int) ≤ x9 ∧ x9 < (a0.length : Int) then ((g86 n (rd a0 x9)).bind fun v16 => if x7.length + v16.length ≤ 140737488355328 then ((l98_0 n a0 k10) (x7 ++ v16) (IntKind.i64.wrap (x9 + 1))) else none) else none) else (some x7)
theorem rs98 : Tryz.f98.results.toList = [.tmp 2] := rfl
def g98 (n : Nat) (a0 : List Int) : Option (List Int) := (g58 n (a0.length : Int)).bind fun v1 => l98_0 n a0 n v1 0
theorem c98 (B : Nat) (w0 : World) (n : Nat) (a0 : List Int) (ta0 : Tail) (H : AHeap) (K : AV → AHeap → Prop) (r : (List Int)) (hg : g98 n a0 = some r)  (hK : ∀ (q0 : Tail) (H' : AHeap), Ext H H' → Free H H' q0 → K (.dl 1 (List.map (AV.int .u8) r) q0) H') : ACall Tryz.prog B w0 98 [.dl 1 (List.map (AV.int .u64) a0) ta0] H K := by
 refine ACall.wkR ?_
 unfold g98 at hg
 refine ACall.enter Tryz.func98 (by kernel_rfl) rfl (eawp_sound noY_sound _ _ _ _ ?_)
 have hE : Ext H H := Ext.refl H
 simp only [EVA, reduceIte, reduceCtorEq, Tryz.ntmps98, rs98, (show IntKind.i64.wrap 1 = 1 from rfl)]
 obtain ⟨v1, ch2, hg⟩ := bind_some hg
 refine ACall.wkA (args := [.int .i64 (a0.length : Int)]) (c58 B w0 n (a0.length : Int) _ _ v1 ch2  ?_) (WkA.r WkA.nil)
 intro tl3 H4 x5 F6
 have F6 := F6.low hE
 have hE := hE.trans x5
 simp only [EVA, reduceIte, reduceCtorEq, (show IntKind.i64.wrap 1 = 1 from rfl)]
 refine AWP.loop (σ := Nat × List Int × Int × Tail) (fun s => [.dl 1 (List.map (AV.int .u64) a0) ta0, .undef, .undef, .dl 1 (List.map (AV.int .u8) s.2.1) s.2.2.2, .int .i64 s.2.2.1, .undef, .undef, .undef, .undef, .undef, .undef, .undef, .undef, .undef, .undef, .undef, .undef, .undef, .undef, .undef, .undef, .undef]) (fun s H' => l98_0 n a0 s.1 s.2.1 s.2.2.1 = some r ∧ Ext H H' ∧ Free H H' s.2.2.2) (fun s => s.1) ⟨⟨n, v1, 0, tl3⟩, (by repeat' first | exact Wk.nil | apply Wk.u | apply Wk.r), ⟨hg, hE, F6⟩⟩ ?_
 rintro ⟨k10, x7, x9, tl8⟩ H11 ⟨hg, hE, F12⟩ _
 try dsimp only at hg F12
 cases k10 with
 | zero => simp only [l98_0, reduceCtorEq] at hg
 | succ k10 =>
  rw [l98_0] at hg
  refine eawp_sound noY_sound _ _ _ _ ?_
  simp only [EVA, reduceIte, reduceCtorEq, (show IntKind.i64.wrap 1 = 1 from rfl)]
  rcases ite_some hg with ⟨h13, hg⟩ | ⟨h13, hg⟩
  ·refine Br.yes h13 ?_
   obtain ⟨h14, hg⟩ := guard_some hg
   have q15 : List.getD (List.map (AV.int .u64) a0) (Int.toNat x9) AV.undef = (AV.int .u64) (rd a0 x9) := rd_map (l := a0) (i := x9) (AV.int .u64) h14
   simp only [EVA, reduceIte, reduceCtorEq, eq_true h13, eq_true h14.1, eq_true h14.2, q15, (show IntKind.i64.wrap 1 = 1 from rfl)]
   obtain ⟨v16, ch17, hg⟩ := bind_some hg
   refine ACall.wkA (args := [.int .u64 (rd a0 x9)]) (c86 B w0 n (rd a0 x9) _ _ v16 ch17  ?_) (WkA.r WkA.nil)
   intro tl18 H19 x20 F21
   have D22 := Free.ne F12 F21
   have F12 := F12.mono x20
   have F21 := F21.low hE
   have hE := hE.trans x20
   simp only [EVA, reduceIte, reduceCtorEq, eq_true h13, eq_true h14.1, eq_true h14.2, q15, (show IntKind.i64.wrap 1 = 1 from rfl)]
   obtain ⟨h28, hg⟩ := guard_some hg
   refine AppE.goM (H0 := H) (AV.int .u8) x7 v16 (n := 140737488355328) ty67 rfl ty5 rfl rfl (by decide) (.dl 1 (List.map (AV.int .u8) v16) tl18) (wkD.refl _) (srcA_dl ty67 rfl) (.inl rfl) h28 (by decide) (by decide) hE F12 ?_
   intro tl23 H24 hE F25 p26 q27 l9
   obtain ⟨F21, D29⟩ := q27 _ F21 D22.symm
   simp only [EVA, reduceIte, reduceCtorEq, eq_true h13, eq_true h14.1, eq_true h14.2, q15, (show IntKind.i64.wrap 1 = 1 from rfl)]
   exact ⟨⟨k10, x7 ++ v16, IntKind.i64.wrap (x9 + 1), tl23⟩, (by repeat' first | exact Wk.nil | apply Wk.u | apply Wk.r), ⟨hg, hE, F25⟩, Nat.lt_succ_self _⟩
  ·refine Br.no h13 ?_
   simp only [EVA, reduceIte, reduceCtorEq, rs98, eq_false h13, (show IntKind.i64.wrap 1 = 1 from rfl)]
   obtain rfl := Option.some.inj hg
   exact ⟨_, (wkR.a (wkA.refl _)), (hK tl8 _ hE F12)⟩
/-- skymosaic/skymosaicref37.Encode -/
theorem rs74 : Tryz.f74.results.toList = [.tmp 2] := rfl
def g74 (n : Nat) (a0 : S1) : Option (List Int) := (g58 n a0.c0).bind fun v3 => (g58 n a0.c1).bind fun v9 => if v3.length + v9.length ≤ 140737488355328 then ((g58 n a0.c2).bind fun v23 => if (v3 ++ v9).length + v23.length ≤ 140737488355328 then ((g86 n a0.c3).bind fun v39 => if ((v3 ++ v9) ++ v23).length + v39.length ≤ 140737488355328 then ((g98 n a0.c4).bind fun v57 => if (((v3 ++ v9) ++ v23) ++ v39).length + v57.length ≤ 140737488355328 then ((g98 n a0.c5).bind fun v77 => if ((((v3 ++ v9) ++ v23) ++ v39) ++ v57).length + v77.length ≤ 140737488355328 then ((g86 n a0.c6).bind fun v99 => if (((((v3 ++ v9) ++ v23) ++ v39) ++ v57) ++ v77).length + v99.length ≤ 140737488355328 then (some ((((((v3 ++ v9) ++ v23) ++ v39) ++ v57) ++ v77) ++ v99)) else none) else none) else none) else none) else none) else none
theorem c74 (B : Nat) (w0 : World) (n : Nat) (a0 : S1) (H : AHeap) (K : AV → AHeap → Prop) (r : (List Int)) (hg : g74 n a0 = some r)  (hK : ∀ (q0 : Tail) (H' : AHeap), Ext H H' → Free H H' q0 → K (.dl 1 (List.map (AV.int .u8) r) q0) H') : ACall Tryz.prog B w0 74 [.agg [.int .i64 a0.c0, .int .i64 a0.c1, .int .i64 a0.c2, .int .u64 a0.c3, .dl 1 (List.map (AV.int .u64) a0.c4) .none, .dl 1 (List.map (AV.int .u64) a0.c5) .none, .int .u64 a0.c6]] H K := by
 refine ACall.wkR ?_
 unfold g74 at hg
 refine ACall.enter Tryz.func74 (by kernel_rfl) rfl (eawp_sound noY_sound _ _ _ _ ?_)
 have hE : Ext H H := Ext.refl H
 simp only [EVA, reduceIte, reduceCtorEq, Tryz.ntmps74, rs74]
 refine eop_box_go (H0 := H) (v := .agg [.int .i64 a0.c0, .int .i64 a0.c1, .int .i64 a0.c2, .int .u64 a0.c3, .dl 1 (List.map (AV.int .u64) a0.c4) .none, .dl 1 (List.map (AV.int .u64) a0.c5) .none, .int .u64 a0.c6]) rfl rfl hE ?_
 intro o1 H2 hE xo1 g_o1 f_o1 n_o1
 have f_o1 : H2[o1]? = some (.cells ([.int .i64 a0.c0, .int .i64 a0.c1, .int .i64 a0.c2, .int .u64 a0.c3, .dl 1 (List.map (AV.int .u64) a0.c4) .none, .dl 1 (List.map (AV.int .u64) a0.c5) .none, .int .u64 a0.c6])) := f_o1
 simp only [EVA, reduceIte, reduceCtorEq, f_o1]
 obtain ⟨v3, ch4, hg⟩ := bind_some hg
 refine ACall.wkA (args := [.int .i64 a0.c0]) (c58 B w0 n a0.c0 _ _ v3 ch4  ?_) (WkA.r WkA.nil)
 intro tl5 H6 x7 F8
 have F8 := F8.low hE
 have f_o1 := x7.2 _ _ f_o1
 have hE := hE.trans x7
 simp only [EVA, reduceIte, reduceCtorEq, f_o1]
 obtain ⟨v9, ch10, hg⟩ := bind_some hg
 refine ACall.wkA (args := [.int .i64 a0.c1]) (c58 B w0 n a0.c1 _ _ v9 ch10  ?_) (WkA.r WkA.nil)
 intro tl11 H12 x13 F14
 have D15 := Free.ne F8 F14
 have F8 := F8.mono x13
 have F14 := F14.low hE
 have f_o1 := x13.2 _ _ f_o1
 have hE := hE.trans x13
 simp only [EVA, reduceIte, reduceCtorEq, f_o1]
 obtain ⟨h21, hg⟩ := guard_some hg
 refine AppE.goM (H0 := H) (AV.int .u8) v3 v9 (n := 140737488355328) ty67 rfl ty5 rfl rfl (by decide) (.dl 1 (List.map (AV.int .u8) v9) tl11) (wkD.refl _) (srcA_dl ty67 rfl) (.inl rfl) h21 (by decide) (by decide) hE F8 ?_
 intro tl16 H17 hE F18 p19 q20 l9
 have f_o1 := p19 _ _ (cnt _) f_o1
 obtain ⟨F14, D22⟩ := q20 _ F14 D15.symm
 simp only [EVA, reduceIte, reduceCtorEq, f_o1]
 obtain ⟨v23, ch24, hg⟩ := bind_some hg
 refine ACall.wkA (args := [.int .i64 a0.c2]) (c58 B w0 n a0.c2 _ _ v23 ch24  ?_) (WkA.r WkA.nil)
 intro tl25 H26 x27 F28
 have D29 := Free.ne F14 F28
 have D30 := Free.ne F18 F28
 have F14 := F14.mono x27
 have F18 := F18.mono x27
 have F28 := F28.low hE
 have f_o1 := x27.2 _ _ f_o1
 have hE := hE.trans x27
 simp only [EVA, reduceIte, reduceCtorEq, f_o1]
 obtain ⟨h36, hg⟩ := guard_some hg
 refine AppE.goM (H0 := H) (AV.int .u8) (v3 ++ v9) v23 (n := 140737488355328) ty67 rfl ty5 rfl rfl (by decide) (.dl 1 (List.map (AV.int .u8) v23) tl25) (wkD.refl _) (srcA_dl ty67 rfl) (.inl rfl) h36 (by decide) (by decide) hE F18 ?_
 intro tl31 H32 hE F33 p34 q35 l9
 have f_o1 := p34 _ _ (cnt _) f_o1
 obtain ⟨F14, D37⟩ := q35 _ F14 D22
 obtain ⟨F28, D38⟩ := q35 _ F28 D30.symm
 simp only [EVA, reduceIte, reduceCtorEq, f_o1]
 obtain ⟨v39, ch40, hg⟩ := bind_some hg
 refine ACall.wkA (args := [.int .u64 a0.c3]) (c86 B w0 n a0.c3 _ _ v39 ch40  ?_) (WkA.r WkA.nil)
 intro tl41 H42 x43 F44
 have D45 := Free.ne F14 F44
 have D46 := Free.ne F28 F44
 have D47 := Free.ne F33 F44
 have F14 := F14.mono x43
 have F28 := F28.mono x43
 have F33 := F33.mono x43
 have F44 := F44.low hE
 have f_o1 := x43.2 _ _ f_o1
 have hE := hE.trans x43
 simp only [EVA, reduceIte, reduceCtorEq, f_o1]
 obtain ⟨h53, hg⟩ := guard_some hg
 refine AppE.goM (H0 := H) (AV.int .u8) ((v3 ++ v9) ++ v23) v39 (n := 140737488355328) ty67 rfl ty5 rfl rfl (by decide) (.dl 1 (List.map (AV.int .u8) v39) tl41) (wkD.refl _) (srcA_dl ty67 rfl) (.inl rfl) h53 (by decide) (by decide) hE F33 ?_
 intro tl48 H49 hE F50 p51 q52 l9
 have f_o1 := p51 _ _ (cnt _) f_o1
 obtain ⟨F14, D54⟩ := q52 _ F14 D37
 obtain ⟨F28, D55⟩ := q52 _ F28 D38
 obtain ⟨F44, D56⟩ := q52 _ F44 D47.symm
 simp only [EVA, reduceIte, reduceCtorEq, f_o1]
 obtain ⟨v57, ch58, hg⟩ := bind_some hg
 refine ACall.wkA (args := [.dl 1 (List.map (AV.int .u64) a0.c4) .none]) (c98 B w0 n a0.c4 .none _ _ v57 ch58  ?_) (WkA.r WkA.nil)
 intro tl59 H60 x61 F62
 have D63 := Free.ne F14 F62
 have D64 := Free.ne F28 F62
 have D65 := Free.ne F44 F62
 have D66 := Free.ne F50 F62
 have F14 := F14.mono x61
 have F28 := F28.mono x61
 have F44 := F44.mono x61
 have F50 := F50.mono x61
 have F62 := F62.low hE
 have f_o1 := x61.2 _ _ f_o1
 have hE := hE.trans x61
 simp only [EVA, reduceIte, reduceCtorEq, f_o1]
 obtain ⟨h72, hg⟩ := guard_some hg
 refine AppE.goM (H0 := H) (AV.int .u8) (((v3 ++ v9) ++ v23) ++ v39) v57 (n := 140737488355328) ty67 rfl ty5 rfl rfl (by decide) (.dl 1 (List.map (AV.int .u8) v57) tl59) (wkD.refl _) (srcA_dl ty67 rfl) (.inl rfl) h72 (by decide) (by decide) hE F50 ?_
 intro tl67 H68 hE F69 p70 q71 l9
 have f_o1 := p70 _ _ (cnt _) f_o1
 obtain ⟨F14, D73⟩ := q71 _ F14 D54
 obtain ⟨F28, D74⟩ := q71 _ F28 D55
 obtain ⟨F44, D75⟩ := q71 _ F44 D56
 obtain ⟨F62, D76⟩ := q71 _ F62 D66.symm
 simp only [EVA, reduceIte, reduceCtorEq, f_o1]
 obtain ⟨v77, ch78, hg⟩ := bind_some hg
 refine ACall.wkA (args := [.dl 1 (List.map (AV.int .u64) a0.c5) .none]) (c98 B w0 n a0.c5 .none _ _ v77 ch78  ?_) (WkA.r WkA.nil)
 intro tl79 H80 x81 F82
 have D83 := Free.ne F14 F82
 have D84 := Free.ne F28 F82
 have D85 := Free.ne F44 F82
 have D86 := Free.ne F62 F82
 have D87 := Free.ne F69 F82
 have F14 := F14.mono x81
 have F28 := F28.mono x81
 have F44 := F44.mono x81
 have F62 := F62.mono x81
 have F69 := F69.mono x81
 have F82 := F82.low hE
 have f_o1 := x81.2 _ _ f_o1
 have hE := hE.trans x81
 simp only [EVA, reduceIte, reduceCtorEq, f_o1]
 obtain ⟨h93, hg⟩ := guard_some hg
 refine AppE.goM (H0 := H) (AV.int .u8) ((((v3 ++ v9) ++ v23) ++ v39) ++ v57) v77 (n := 140737488355328) ty67 rfl ty5 rfl rfl (by decide) (.dl 1 (List.map (AV.int .u8) v77) tl79) (wkD.refl _) (srcA_dl ty67 rfl) (.inl rfl) h93 (by decide) (by decide) hE F69 ?_
 intro tl88 H89 hE F90 p91 q92 l9
 have f_o1 := p91 _ _ (cnt _) f_o1
 obtain ⟨F14, D94⟩ := q92 _ F14 D73
 obtain ⟨F28, D95⟩ := q92 _ F28 D74
 obtain ⟨F44, D96⟩ := q92 _ F44 D75
 obtain ⟨F62, D97⟩ := q92 _ F62 D76
 obtain ⟨F82, D98⟩ := q92 _ F82 D87.symm
 simp only [EVA, reduceIte, reduceCtorEq, f_o1]
 obtain ⟨v99, ch100, hg⟩ := bind_some hg
 refine ACall.wkA (args := [.int .u64 a0.c6]) (c86 B w0 n a0.c6 _ _ v99 ch100  ?_) (WkA.r WkA.nil)
 intro tl101 H102 x103 F104
 have D105 := Free.ne F14 F104
 have D106 := Free.ne F28 F104
 have D107 := Free.ne F44 F104
 have D108 := Free.ne F62 F104
 have D109 := Free.ne F82 F104
 have D110 := Free.ne F90 F104
 have F14 := F14.mono x103
 have F28 := F28.mono x103
 have F44 := F44.mono x103
 have F62 := F62.mono x103
 have F82 := F82.mono x103
 have F90 := F90.mono x103
 have F104 := F104.low hE
 have f_o1 := x103.2 _ _ f_o1
 have hE := hE.trans x103
 simp only [EVA, reduceIte, reduceCtorEq, f_o1]
 obtain ⟨h116, hg⟩ := guard_some hg
 refine AppE.goM (H0 := H) (AV.int .u8) (((((v3 ++ v9) ++ v23) ++ v39) ++ v57) ++ v77) v99 (n := 140737488355328) ty67 rfl ty5 rfl rfl (by decide) (.dl 1 (List.map (AV.int .u8) v99) tl101) (wkD.refl _) (srcA_dl ty67 rfl) (.inl rfl) h116 (by decide) (by decide) hE F90 ?_
 intro tl111 H112 hE F113 p114 q115 l9
 have f_o1 := p114 _ _ (cnt _) f_o1
 obtain ⟨F14, D117⟩ := q115 _ F14 D94
 obtain ⟨F28, D118⟩ := q115 _ F28 D95
 obtain ⟨F44, D119⟩ := q115 _ F44 D96
 obtain ⟨F62, D120⟩ := q115 _ F62 D97
 obtain ⟨F82, D121⟩ := q115 _ F82 D98
 obtain ⟨F104, D122⟩ := q115 _ F104 D110.symm
 simp only [EVA, reduceIte, reduceCtorEq, rs74, f_o1]
 obtain rfl := Option.some.inj hg
 exact ⟨_, (wkR.a (wkA.refl _)), (hK tl111 _ hE F113)⟩
/-- skymosaic/skymosaicref38.Sum -/
def l39_0 (n : Nat) (a0 : List S1) : Nat → Int → Int → Option (Int)
 | 0, _, _ => none
 | k7 + 1, x5, x6 => if x6 < (a0.length : Int) then (if (0 : Int) ≤ x6 ∧ x6 < (a0.length : Int) then ((g74 n (⟨(rd a0 x6).c0, (rd a0 x6).c1, (rd a0 x6).c2, (rd a0 x6).c3, (rd a0 x6).c4, (rd a0 x6).c5, (rd a0 x6).c6⟩ : S1)).bind fun v12 => (g73 n ([112, 114, 111, 111, 102]) v12).bind fun v18 => (g72 n x5 v18).bind fun v22 => (l39_0 n a0 k7) v22 (IntKind.i64.wrap (x6 + 1))) else none) else (some x5)
theorem rs39 : Tryz.f39.results.toList = [.tmp 2] := rfl
def g39 (n : Nat) (a0 : List S1) : Option (Int) := (g71 n ([112, 114, 111, 111, 102, 115]) ([(a0.length : Int)] : List Int)).bind fun v1 => l39_0 n a0 n v1 0
theorem c39 (B : Nat) (w0 : World) (n : Nat) (a0 : List S1) (ta0 : Tail) (H : AHeap) (K : AV → AHeap → Prop) (r : (Int)) (hg : g39 n a0 = some r)  (hK : ∀ (H' : AHeap), Ext H H' → K (.int .u64 r) H') : ACall Tryz.prog B w0 39 [.dl 7 (List.map encS1 a0) ta0] H K := by
 unfold g39 at hg
 refine ACall.enter Tryz.func39 (by kernel_rfl) rfl (eawp_sound noY_sound _ _ _ _ ?_)
 have hE : Ext H H := Ext.refl H
 simp only [EVA, reduceIte, reduceCtorEq, Nat.reduceLT, Nat.reduceLeDiff, Int.reduceEq, Int.reduceLT, Int.reduceLE, Nat.reduceMul, Tryz.ntmps39, rs39, (show IntKind.i64.wrap 1 = 1 from rfl)]
 obtain ⟨v1, ch2, hg⟩ := bind_some hg
 refine ACall.wkA (args := [.str ([112, 114, 111, 111, 102, 115]), .dl 1 (List.map (AV.int .i64) ([(a0.length : Int)] : List Int)) .full]) (c71 B w0 n ([112, 114, 111, 111, 102, 115]) ([(a0.length : Int)] : List Int) .full _ _ v1 ch2  ?_) (WkA.r (WkA.r WkA.nil))
 intro H3 x4
 have hE := hE.trans x4
 simp only [EVA, reduceIte, reduceCtorEq, Nat.reduceLT, Nat.reduceLeDiff, Int.reduceEq, Int.reduceLT, Int.reduceLE, Nat.reduceMul, (show IntKind.i64.wrap 1 = 1 from rfl)]
 refine AWP.loop (σ := Nat × Int × Int) (fun s => [.dl 7 (List.map encS1 a0) ta0, .undef, .undef, .int .u64 s.2.1, .int .i64 s.2.2, .undef, .undef, .undef, .undef, .undef, .undef, .undef, .undef, .undef, .undef, .undef, .undef, .undef, .undef, .undef, .undef, .undef, .undef, .undef]) (fun s H' => l39_0 n a0 s.1 s.2.1 s.2.2 = some r ∧ Ext H H') (fun s => s.1) ⟨⟨n, v1, 0⟩, (by repeat' first | exact Wk.nil | apply Wk.u | apply Wk.r), ⟨hg, hE⟩⟩ ?_
 rintro ⟨k7, x5, x6⟩ H8 ⟨hg, hE⟩ _
 try dsimp only at hg
 cases k7 with
 | zero => simp only [l39_0, reduceCtorEq] at hg
 | succ k7 =>
  rw [l39_0] at hg
  refine eawp_sound noY_sound _ _ _ _ ?_
  simp only [EVA, reduceIte, reduceCtorEq, Nat.reduceLT, Nat.reduceLeDiff, Int.reduceEq, Int.reduceLT, Int.reduceLE, Nat.reduceMul, (show IntKind.i64.wrap 1 = 1 from rfl)]
  rcases ite_some hg with ⟨h9, hg⟩ | ⟨h9, hg⟩
  ·refine Br.yes h9 ?_
   obtain ⟨h10, hg⟩ := guard_some hg
   have q11 : List.getD (List.map encS1 a0) (Int.toNat x6) AV.undef = encS1 (rd a0 x6) := rd_map (l := a0) (i := x6) encS1 h10
   simp only [EVA, reduceIte, reduceCtorEq, Nat.reduceLT, Nat.reduceLeDiff, Int.reduceEq, Int.reduceLT, Int.reduceLE, Nat.reduceMul, eq_true h9, eq_true h10.1, eq_true h10.2, q11, (show IntKind.i64.wrap 1 = 1 from rfl)]
   obtain ⟨v12, ch13, hg⟩ := bind_some hg
   refine ACall.wkA (args := [.agg [.int .i64 ((rd a0 x6).c0), .int .i64 ((rd a0 x6).c1), .int .i64 ((rd a0 x6).c2), .int .u64 ((rd a0 x6).c3), .dl 1 (List.map (AV.int .u64) ((rd a0 x6).c4)) .none, .dl 1 (List.map (AV.int .u64) ((rd a0 x6).c5)) .none, .int .u64 ((rd a0 x6).c6)]]) (c74 B w0 n (⟨(rd a0 x6).c0, (rd a0 x6).c1, (rd a0 x6).c2, (rd a0 x6).c3, (rd a0 x6).c4, (rd a0 x6).c5, (rd a0 x6).c6⟩ : S1) _ _ v12 ch13  ?_) (WkA.cons (wkA.agg (by repeat' first | exact Wk.nil | apply Wk.u | apply Wk.r)) WkA.nil)
   intro tl14 H15 x16 F17
   have F17 := F17.low hE
   have hE := hE.trans x16
   simp only [EVA, reduceIte, reduceCtorEq, Nat.reduceLT, Nat.reduceLeDiff, Int.reduceEq, Int.reduceLT, Int.reduceLE, Nat.reduceMul, eq_true h9, eq_true h10.1, eq_true h10.2, q11, (show IntKind.i64.wrap 1 = 1 from rfl)]
   obtain ⟨v18, ch19, hg⟩ := bind_some hg
   refine ACall.wkA (args := [.str ([112, 114, 111, 111, 102]), .dl 1 (List.map (AV.int .u8) v12) tl14]) (c73 B w0 n ([112, 114, 111, 111, 102]) v12 tl14 _ _ v18 ch19  ?_) (WkA.r (WkA.r WkA.nil))
   intro H20 x21
   have F17 := F17.mono x21
   have hE := hE.trans x21
   simp only [EVA, reduceIte, reduceCtorEq, Nat.reduceLT, Nat.reduceLeDiff, Int.reduceEq, Int.reduceLT, Int.reduceLE, Nat.reduceMul, eq_true h9, eq_true h10.1, eq_true h10.2, q11, (show IntKind.i64.wrap 1 = 1 from rfl)]
   obtain ⟨v22, ch23, hg⟩ := bind_some hg
   refine ACall.wkA (args := [.int .u64 x5, .int .u64 v18]) (c72 B w0 n x5 v18 _ _ v22 ch23  ?_) (WkA.r (WkA.r WkA.nil))
   intro H24 x25
   have F17 := F17.mono x25
   have hE := hE.trans x25
   simp only [EVA, reduceIte, reduceCtorEq, Nat.reduceLT, Nat.reduceLeDiff, Int.reduceEq, Int.reduceLT, Int.reduceLE, Nat.reduceMul, eq_true h9, eq_true h10.1, eq_true h10.2, q11, (show IntKind.i64.wrap 1 = 1 from rfl)]
   exact ⟨⟨k7, v22, IntKind.i64.wrap (x6 + 1)⟩, (by repeat' first | exact Wk.nil | apply Wk.u | apply Wk.r), ⟨hg, hE⟩, Nat.lt_succ_self _⟩
  ·refine Br.no h9 ?_
   simp only [EVA, reduceIte, reduceCtorEq, Nat.reduceLT, Nat.reduceLeDiff, Int.reduceEq, Int.reduceLT, Int.reduceLE, Nat.reduceMul, rs39, eq_false h9, (show IntKind.i64.wrap 1 = 1 from rfl)]
   obtain rfl := Option.some.inj hg
   exact (hK  _ hE )
/-- skymosaic/skymosaicref37.Uses -/
def l75_0 (n : Nat) (a0 : S1) (a1 : Int) : Nat → Int → Option (Bool)
 | 0, _ => none
 | k4 + 1, x3 => if x3 < (a0.c4.length : Int) then (if (0 : Int) ≤ x3 ∧ x3 < (a0.c4.length : Int) then (if (rd a0.c4 x3) = a1 then (some true) else ((l75_0 n a0 a1 k4) (IntKind.i64.wrap (x3 + 1)))) else none) else (some false)
theorem rs75 : Tryz.f75.results.toList = [.tmp 4] := rfl
def g75 (n : Nat) (a0 : S1) (a1 : Int) : Option (Bool) := l75_0 n a0 a1 n 0
theorem c75 (B : Nat) (w0 : World) (n : Nat) (a0 : S1) (a1 : Int) (H : AHeap) (K : AV → AHeap → Prop) (r : (Bool)) (hg : g75 n a0 a1 = some r)  (hK : ∀ (H' : AHeap), Ext H H' → K (.bool r) H') : ACall Tryz.prog B w0 75 [.agg [.int .i64 a0.c0, .int .i64 a0.c1, .int .i64 a0.c2, .int .u64 a0.c3, .dl 1 (List.map (AV.int .u64) a0.c4) .none, .dl 1 (List.map (AV.int .u64) a0.c5) .none, .int .u64 a0.c6], .int .u64 a1] H K := by
 unfold g75 at hg
 refine ACall.enter Tryz.func75 (by kernel_rfl) rfl (eawp_sound noY_sound _ _ _ _ ?_)
 have hE : Ext H H := Ext.refl H
 simp only [EVA, reduceIte, reduceCtorEq, Tryz.ntmps75, rs75, (show IntKind.i64.wrap 1 = 1 from rfl)]
 refine eop_box_go (H0 := H) (v := .agg [.int .i64 a0.c0, .int .i64 a0.c1, .int .i64 a0.c2, .int .u64 a0.c3, .dl 1 (List.map (AV.int .u64) a0.c4) .none, .dl 1 (List.map (AV.int .u64) a0.c5) .none, .int .u64 a0.c6]) rfl rfl hE ?_
 intro o1 H2 hE xo1 g_o1 f_o1 n_o1
 have f_o1 : H2[o1]? = some (.cells ([.int .i64 a0.c0, .int .i64 a0.c1, .int .i64 a0.c2, .int .u64 a0.c3, .dl 1 (List.map (AV.int .u64) a0.c4) .none, .dl 1 (List.map (AV.int .u64) a0.c5) .none, .int .u64 a0.c6])) := f_o1
 simp only [EVA, reduceIte, reduceCtorEq, f_o1, (show IntKind.i64.wrap 1 = 1 from rfl)]
 refine AWP.loop (σ := Nat × Int) (fun s => [.undef, .int .u64 a1, .ptr o1 0, .undef, .undef, .int .i64 s.2, .undef, .undef, .undef, .undef, .undef, .undef, .undef, .undef, .undef, .undef, .undef, .undef, .undef, .undef]) (fun s H' => l75_0 n a0 a1 s.1 s.2 = some r ∧ SameH H2 H') (fun s => s.1) ⟨⟨n, 0⟩, (by repeat' first | exact Wk.nil | apply Wk.u | apply Wk.r), ⟨hg, (rfl : SameH _ _)⟩⟩ ?_
 rintro ⟨k4, x3⟩ H5 ⟨hg, hH9⟩ _
 unfold SameH at hH9
 subst hH9
 try dsimp only at hg
 cases k4 with
 | zero => simp only [l75_0, reduceCtorEq] at hg
 | succ k4 =>
  rw [l75_0] at hg
  refine eawp_sound noY_sound _ _ _ _ ?_
  simp only [EVA, reduceIte, reduceCtorEq, f_o1, (show IntKind.i64.wrap 1 = 1 from rfl)]
  rcases ite_some hg with ⟨h6, hg⟩ | ⟨h6, hg⟩
  ·refine Br.yes h6 ?_
   obtain ⟨h7, hg⟩ := guard_some hg
   have q8 : List.getD (List.map (AV.int .u64) a0.c4) (Int.toNat x3) AV.undef = (AV.int .u64) (rd a0.c4 x3) := rd_map (l := a0.c4) (i := x3) (AV.int .u64) h7
   simp only [EVA, reduceIte, reduceCtorEq, eq_true h6, eq_true h7.1, eq_true h7.2, q8, f_o1, (show IntKind.i64.wrap 1 = 1 from rfl)]
   rcases ite_some hg with ⟨h9, hg⟩ | ⟨h9, hg⟩
   ·refine Br.yes h9 ?_
    simp only [EVA, reduceIte, reduceCtorEq, rs75, eq_true h6, eq_true h7.1, eq_true h7.2, q8, eq_true h9, f_o1, (show IntKind.i64.wrap 1 = 1 from rfl)]
    obtain rfl := Option.some.inj hg
    exact (hK  _ hE )
   ·refine Br.no h9 ?_
    simp only [EVA, reduceIte, reduceCtorEq, eq_true h6, eq_true h7.1, eq_true h7.2, q8, eq_false h9, f_o1, (show IntKind.i64.wrap 1 = 1 from rfl)]
    exact ⟨⟨k4, IntKind.i64.wrap (x3 + 1)⟩, (by repeat' first | exact Wk.nil | apply Wk.u | apply Wk.r), ⟨hg, (rfl : SameH _ _)⟩, Nat.lt_succ_self _⟩
  ·refine Br.no h6 ?_
   simp only [EVA, reduceIte, reduceCtorEq, rs75, eq_false h6, f_o1, (show IntKind.i64.wrap 1 = 1 from rfl)]
   obtain rfl := Option.some.inj hg
   exact (hK  _ hE )
/-- skymosaic/skymosaicref38.named -/
def l40_2 (n : Nat) (l40_1_REC : Int → Option (Bool)) (a0 : List (List S1)) (a1 : List Int) (x1 : Int) (x5 : Int) : Nat → Int → Option (Bool)
 | 0, _ => none
 | k12 + 1, x11 => if x11 < (a1.length : Int) then (if (0 : Int) ≤ x1 ∧ x1 < (a0.length : Int) then (if (0 : Int) ≤ x5 ∧ x5 < ((rd a0 x1).length : Int) then (if (0 : Int) ≤ x11 ∧ x11 < (a1.length : Int) then ((g75 n (⟨(rd (rd a0 x1) x5).c0, (rd (rd a0 x1) x5).c1, (rd (rd a0 x1) x5).c2, (rd (rd a0 x1) x5).c3, (rd (rd a0 x1) x5).c4, (rd (rd a0 x1) x5).c5, (rd (rd a0 x1) x5).c6⟩ : S1) (rd a1 x11)).bind fun v21 => if v21 = true then (some true) else ((l40_2 n l40_1_REC a0 a1 x1 x5 k12) (IntKind.i64.wrap (x11 + 1)))) else none) else none) else none) else (l40_1_REC (IntKind.i64.wrap (x5 + 1)))
def l40_1 (n : Nat) (l40_0_REC : Int → Option (Bool)) (a0 : List (List S1)) (a1 : List Int) (x1 : Int) : Nat → Int → Option (Bool)
 | 0, _ => none
 | k6 + 1, x5 => if (0 : Int) ≤ x1 ∧ x1 < (a0.length : Int) then (if x5 < ((rd a0 x1).length : Int) then (l40_2 n (l40_1 n l40_0_REC a0 a1 x1 k6) a0 a1 x1 x5 n 0) else (l40_0_REC (IntKind.i64.wrap (x1 + 1)))) else none
def l40_0 (n : Nat) (a0 : List (List S1)) (a1 : List Int) : Nat → Int → Option (Bool)
 | 0, _ => none
 | k2 + 1, x1 => if x1 < (a0.length : Int) then (l40_1 n (l40_0 n a0 a1 k2) a0 a1 x1 n 0) else (some false)
theorem rs40 : Tryz.f40.results.toList = [.tmp 4] := rfl
def g40 (n : Nat) (a0 : List (List S1)) (a1 : List Int) : Option (Bool) := l40_0 n a0 a1 n 0
theorem c40 (B : Nat) (w0 : World) (n : Nat) (a0 : List (List S1)) (a1 : List Int) (ta0 : Tail) (ta1 : Tail) (H : AHeap) (K : AV → AHeap → Prop) (r : (Bool)) (hg : g40 n a0 a1 = some r)  (hK : ∀ (H' : AHeap), Ext H H' → K (.bool r) H') : ACall Tryz.prog B w0 40 [.dl 1 (List.map encL3 a0) ta0, .dl 1 (List.map (AV.int .u64) a1) ta1] H K := by
 unfold g40 at hg
 refine ACall.enter Tryz.func40 (by kernel_rfl) rfl (eawp_sound noY_sound _ _ _ _ ?_)
 have hE : Ext H H := Ext.refl H
 simp only [EVA, reduceIte, reduceCtorEq, Tryz.ntmps40, rs40, (show IntKind.i64.wrap 1 = 1 from rfl)]
 refine AWP.loop (σ := Nat × Int) (fun s => [.dl 1 (List.map encL3 a0) ta0, .dl 1 (List.map (AV.int .u64) a1) ta1, .undef, .undef, .undef, .int .i64 s.2, .undef, .undef, .undef, .undef, .undef, .undef, .undef, .undef, .undef, .undef, .undef, .undef, .undef, .undef, .undef, .undef, .undef, .undef, .undef, .undef, .undef, .undef, .undef, .undef, .undef, .undef, .undef, .undef, .undef, .undef, .undef, .undef, .undef, .undef, .undef]) (fun s H' => l40_0 n a0 a1 s.1 s.2 = some r ∧ Ext H H') (fun s => s.1) ⟨⟨n, 0⟩, (by repeat' first | exact Wk.nil | apply Wk.u | apply Wk.r), ⟨hg, hE⟩⟩ ?_
 rintro ⟨k2, x1⟩ H3 ⟨hg, hE⟩ _
 try dsimp only at hg
 cases k2 with
 | zero => simp only [l40_0, reduceCtorEq] at hg
 | succ k2 =>
  rw [l40_0] at hg
  refine eawp_sound noY_sound _ _ _ _ ?_
  simp only [EVA, reduceIte, reduceCtorEq, (show IntKind.i64.wrap 1 = 1 from rfl)]
  rcases ite_some hg with ⟨h4, hg⟩ | ⟨h4, hg⟩
  ·refine Br.yes h4 ?_
   simp only [EVA, reduceIte, reduceCtorEq, eq_true h4, (show IntKind.i64.wrap 1 = 1 from rfl)]
   refine AWP.loop (σ := Nat × Int) (fun s => [.dl 1 (List.map encL3 a0) ta0, .dl 1 (List.map (AV.int .u64) a1) ta1, .undef, .undef, .undef, .int .i64 x1, .int .i64 s.2, .undef, .undef, .undef, .undef, .undef, .undef, .undef, .undef, .undef, .undef, .undef, .undef, .undef, .undef, .undef, .undef, .undef, .undef, .undef, .undef, .undef, .undef, .undef, .undef, .undef, .undef, .undef, .undef, .undef, .undef, .undef, .undef, .undef, .undef]) (fun s H' => l40_1 n (l40_0 n a0 a1 k2) a0 a1 x1 s.1 s.2 = some r ∧ Ext H H') (fun s => s.1) ⟨⟨n, 0⟩, (by repeat' first | exact Wk.nil | apply Wk.u | apply Wk.r), ⟨hg, hE⟩⟩ ?_
   rintro ⟨k6, x5⟩ H7 ⟨hg, hE⟩ _
   try dsimp only at hg
   cases k6 with
   | zero => simp only [l40_1, reduceCtorEq] at hg
   | succ k6 =>
    rw [l40_1] at hg
    refine eawp_sound noY_sound _ _ _ _ ?_
    obtain ⟨h8, hg⟩ := guard_some hg
    have q9 : List.getD (List.map encL3 a0) (Int.toNat x1) AV.undef = encL3 (rd a0 x1) := rd_map (l := a0) (i := x1) encL3 h8
    simp only [EVA, reduceIte, reduceCtorEq, eq_true h4, eq_true h8.1, eq_true h8.2, q9, (show IntKind.i64.wrap 1 = 1 from rfl)]
    rcases ite_some hg with ⟨h10, hg⟩ | ⟨h10, hg⟩
    ·refine Br.yes h10 ?_
     simp only [EVA, reduceIte, reduceCtorEq, eq_true h4, eq_true h8.1, eq_true h8.2, q9, eq_true h10, (show IntKind.i64.wrap 1 = 1 from rfl)]
     refine AWP.loop (σ := Nat × Int) (fun s => [.dl 1 (List.map encL3 a0) ta0, .dl 1 (List.map (AV.int .u64) a1) ta1, .undef, .undef, .undef, .int .i64 x1, .int .i64 x5, .int .i64 s.2, .undef, .undef, .undef, .undef, .undef, .undef, .undef, .undef, .undef, .undef, .undef, .undef, .undef, .undef, .undef, .undef, .undef, .undef, .undef, .undef, .undef, .undef, .undef, .undef, .undef, .undef, .undef, .undef, .undef, .undef, .undef, .undef, .undef]) (fun s H' => l40_2 n (l40_1 n (l40_0 n a0 a1 k2) a0 a1 x1 k6) a0 a1 x1 x5 s.1 s.2 = some r ∧ Ext H H') (fun s => s.1) ⟨⟨n, 0⟩, (by repeat' first | exact Wk.nil | apply Wk.u | apply Wk.r), ⟨hg, hE⟩⟩ ?_
     rintro ⟨k12, x11⟩ H13 ⟨hg, hE⟩ _
     try dsimp only at hg
     cases k12 with
     | zero => simp only [l40_2, reduceCtorEq] at hg
     | succ k12 =>
      rw [l40_2] at hg
      refine eawp_sound noY_sound _ _ _ _ ?_
      simp only [EVA, reduceIte, reduceCtorEq, eq_true h4, eq_true h8.1, eq_true h8.2, q9, eq_true h10, (show IntKind.i64.wrap 1 = 1 from rfl)]
      rcases ite_some hg with ⟨h14, hg⟩ | ⟨h14, hg⟩
      ·refine Br.yes h14 ?_
       simp only [EVA, reduceIte, reduceCtorEq, eq_true h4, eq_true h8.1, eq_true h8.2, q9, eq_true h10, eq_true h14, (show IntKind.i64.wrap 1 = 1 from rfl)]
       refine AWP.draw noY_sound [[], [], [0, 1], [0, 1, 2], [], [0, 1, 2, 3, 4], [0, 1, 2, 3, 4, 5], [], [], [7, 8], [7, 8, 9], [0, 1, 2, 3, 4, 5, 6, 7, 8, 9, 10]] [⟨0, false, []⟩, ⟨1, false, []⟩, ⟨2, false, []⟩, ⟨3, false, []⟩, ⟨4, false, []⟩, ⟨5, false, []⟩, ⟨6, false, []⟩, ⟨7, false, []⟩, ⟨8, false, []⟩, ⟨9, false, []⟩, ⟨10, false, []⟩, ⟨11, true, []⟩] [0, 1, 2, 3, 4, 5, 6, 7, 8, 9, 10, 11] [0, 1, 2, 3, 4, 5, 6, 7, 8, 9, 10, 11] (by kernel_rfl) ?_
       obtain ⟨h15, hg⟩ := guard_some hg
       have q16 : List.getD (List.map encL3 a0) (Int.toNat x1) AV.undef = encL3 (rd a0 x1) := rd_map (l := a0) (i := x1) encL3 h15
       obtain ⟨h17, hg⟩ := guard_some hg
       have q18 : List.getD (List.map encS1 (rd a0 x1)) (Int.toNat x5) AV.undef = encS1 (rd (rd a0 x1) x5) := rd_map (l := rd a0 x1) (i := x5) encS1 h17
       obtain ⟨h19, hg⟩ := guard_some hg
       have q20 : List.getD (List.map (AV.int .u64) a1) (Int.toNat x11) AV.undef = (AV.int .u64) (rd a1 x11) := rd_map (l := a1) (i := x11) (AV.int .u64) h19
       simp only [EVA, reduceIte, reduceCtorEq, eq_true h4, eq_true h8.1, eq_true h8.2, q9, eq_true h10, eq_true h14, eq_true h15.1, eq_true h15.2, q16, eq_true h17.1, eq_true h17.2, q18, eq_true h19.1, eq_true h19.2, q20, (show IntKind.i64.wrap 1 = 1 from rfl)]
       obtain ⟨v21, ch22, hg⟩ := bind_some hg
       refine ACall.wkA (args := [.agg [.int .i64 ((rd (rd a0 x1) x5).c0), .int .i64 ((rd (rd a0 x1) x5).c1), .int .i64 ((rd (rd a0 x1) x5).c2), .int .u64 ((rd (rd a0 x1) x5).c3), .dl 1 (List.map (AV.int .u64) ((rd (rd a0 x1) x5).c4)) .none, .dl 1 (List.map (AV.int .u64) ((rd (rd a0 x1) x5).c5)) .none, .int .u64 ((rd (rd a0 x1) x5).c6)], .int .u64 (rd a1 x11)]) (c75 B w0 n (⟨(rd (rd a0 x1) x5).c0, (rd (rd a0 x1) x5).c1, (rd (rd a0 x1) x5).c2, (rd (rd a0 x1) x5).c3, (rd (rd a0 x1) x5).c4, (rd (rd a0 x1) x5).c5, (rd (rd a0 x1) x5).c6⟩ : S1) (rd a1 x11) _ _ v21 ch22  ?_) (WkA.cons (wkA.agg (by repeat' first | exact Wk.nil | apply Wk.u | apply Wk.r)) (WkA.r WkA.nil))
       intro H23 x24
       have hE := hE.trans x24
       rcases ite_some hg with ⟨h25, hg⟩ | ⟨h25, hg⟩
       ·simp only [EVA, reduceIte, reduceCtorEq, rs40, eq_true h4, eq_true h8.1, eq_true h8.2, q9, eq_true h10, eq_true h14, eq_true h15.1, eq_true h15.2, q16, eq_true h17.1, eq_true h17.2, q18, eq_true h19.1, eq_true h19.2, q20, h25, (show IntKind.i64.wrap 1 = 1 from rfl)]
        obtain rfl := Option.some.inj hg
        exact (hK  _ hE )
       ·have h25 := Bool.eq_false_iff.2 h25
        simp only [EVA, reduceIte, reduceCtorEq, eq_true h4, eq_true h8.1, eq_true h8.2, q9, eq_true h10, eq_true h14, eq_true h15.1, eq_true h15.2, q16, eq_true h17.1, eq_true h17.2, q18, eq_true h19.1, eq_true h19.2, q20, h25, (show IntKind.i64.wrap 1 = 1 from rfl)]
        exact ⟨⟨k12, IntKind.i64.wrap (x11 + 1)⟩, (by repeat' first | exact Wk.nil | apply Wk.u | apply Wk.r), ⟨hg, hE⟩, Nat.lt_succ_self _⟩
      ·refine Br.no h14 ?_
       simp only [EVA, reduceIte, reduceCtorEq, eq_true h4, eq_true h8.1, eq_true h8.2, q9, eq_true h10, eq_false h14, (show IntKind.i64.wrap 1 = 1 from rfl)]
       exact ⟨⟨k6, IntKind.i64.wrap (x5 + 1)⟩, (by repeat' first | exact Wk.nil | apply Wk.u | apply Wk.r), ⟨hg, hE⟩, Nat.lt_succ_self _⟩
    ·refine Br.no h10 ?_
     simp only [EVA, reduceIte, reduceCtorEq, eq_true h4, eq_true h8.1, eq_true h8.2, q9, eq_false h10, (show IntKind.i64.wrap 1 = 1 from rfl)]
     exact ⟨⟨k2, IntKind.i64.wrap (x1 + 1)⟩, (by repeat' first | exact Wk.nil | apply Wk.u | apply Wk.r), ⟨hg, hE⟩, Nat.lt_succ_self _⟩
  ·refine Br.no h4 ?_
   simp only [EVA, reduceIte, reduceCtorEq, rs40, eq_false h4, (show IntKind.i64.wrap 1 = 1 from rfl)]
   obtain rfl := Option.some.inj hg
   exact (hK  _ hE )
end Go.Av
end
