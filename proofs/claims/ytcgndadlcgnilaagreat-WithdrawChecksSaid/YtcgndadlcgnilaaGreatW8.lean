/- the walks, part 8 -/
import Derived.Test.YtcgndadlcgnilaaGreatA28
import Derived.Test.YtcgndadlcgnilaaGreatW7
set_option autoImplicit false
set_option linter.unusedSimpArgs false
set_option linter.unusedVariables false
set_option linter.unnecessarySimpa false
section
set_option maxHeartbeats 1000000
set_option maxRecDepth 10000
namespace Go.Av
open Go.Proofs
/-- skymosaic/skymosaicref38.put -/
def l41_0 (n : Nat) (a0 : List Int) (a1 : Int) : Nat → List Int → Bool → Int → Option (List Int)
 | 0, _, _, _ => none
 | k5 + 1, x1, x3, x4 => if x4 < (a0.length : Int) then (if (0 : Int) ≤ x4 ∧ x4 < (a0.length : Int) then (if a1 < (rd a0 x4) then (if x3 = true then (if (0 : Int) ≤ x4 ∧ x4 < (a0.length : Int) then (if x1.length + 1 ≤ 17592186044416 then ((l41_0 n a0 a1 k5) (x1 ++ ([rd a0 x4] : List Int)) true (IntKind.i64.wrap (x4 + 1))) else none) else none) else (if x1.length + 1 ≤ 17592186044416 then (if (0 : Int) ≤ x4 ∧ x4 < (a0.length : Int) then (if (0 : Int) ≤ x4 ∧ x4 < (a0.length : Int) then (if (x1 ++ ([a1] : List Int)).length + 1 ≤ 17592186044416 then ((l41_0 n a0 a1 k5) ((x1 ++ ([a1] : List Int)) ++ ([rd a0 x4] : List Int)) (decide (a1 ≤ (rd a0 x4))) (IntKind.i64.wrap (x4 + 1))) else none) else none) else none) else none)) else (if x3 = true then (if (0 : Int) ≤ x4 ∧ x4 < (a0.length : Int) then (if x1.length + 1 ≤ 17592186044416 then ((l41_0 n a0 a1 k5) (x1 ++ ([rd a0 x4] : List Int)) true (IntKind.i64.wrap (x4 + 1))) else none) else none) else (if (0 : Int) ≤ x4 ∧ x4 < (a0.length : Int) then (if (0 : Int) ≤ x4 ∧ x4 < (a0.length : Int) then (if x1.length + 1 ≤ 17592186044416 then ((l41_0 n a0 a1 k5) (x1 ++ ([rd a0 x4] : List Int)) (decide (a1 ≤ (rd a0 x4))) (IntKind.i64.wrap (x4 + 1))) else none) else none) else none))) else none) else (if x3 = true then (some x1) else (if x1.length + 1 ≤ 17592186044416 then (some (x1 ++ ([a1] : List Int))) else none))
theorem rs41 : Tryz.f41.results.toList = [.tmp 4] := rfl
def g41 (n : Nat) (a0 : List Int) (a1 : Int) : Option (List Int) := l41_0 n a0 a1 n ([] : List Int) false 0
theorem c41 (B : Nat) (w0 : World) (n : Nat) (a0 : List Int) (a1 : Int) (ta0 : Tail) (H : AHeap) (K : AV → AHeap → Prop) (r : (List Int)) (hg : g41 n a0 a1 = some r)  (hK : ∀ (q0 : Tail) (H' : AHeap), Ext H H' → Free H H' q0 → K (.dl 1 (List.map (AV.int .u64) r) q0) H') : ACall Tryz.prog B w0 41 [.dl 1 (List.map (AV.int .u64) a0) ta0, .int .u64 a1] H K := by
 refine ACall.wkR ?_
 unfold g41 at hg
 refine ACall.enter Tryz.func41 (by kernel_rfl) rfl (eawp_sound noY_sound _ _ _ _ ?_)
 have hE : Ext H H := Ext.refl H
 simp only [EVA, reduceIte, reduceCtorEq, Nat.reduceLT, Nat.reduceLeDiff, Int.reduceEq, Int.reduceLT, Int.reduceLE, Nat.reduceMul, Tryz.ntmps41, rs41, (show IntKind.i64.wrap 1 = 1 from rfl)]
 refine AWP.loop (σ := Nat × List Int × Bool × Int × Tail) (fun s => [.dl 1 (List.map (AV.int .u64) a0) ta0, .int .u64 a1, .undef, .undef, .undef, .dl 1 (List.map (AV.int .u64) s.2.1) s.2.2.2.2, .bool s.2.2.1, .int .i64 s.2.2.2.1, .undef, .undef, .undef, .undef, .undef, .undef, .undef, .undef, .undef, .undef, .undef, .undef, .undef, .undef, .undef, .undef, .undef, .undef, .undef, .undef, .undef, .undef, .undef, .undef, .undef, .undef, .undef, .undef, .undef, .undef, .undef, .undef, .undef, .undef, .undef, .undef, .undef, .undef, .undef, .undef, .undef, .undef, .undef]) (fun s H' => l41_0 n a0 a1 s.1 s.2.1 s.2.2.1 s.2.2.2.1 = some r ∧ Ext H H' ∧ Free H H' s.2.2.2.2) (fun s => s.1) ⟨⟨n, ([] : List Int), false, 0, .full⟩, (by repeat' first | exact Wk.nil | apply Wk.u | apply Wk.r | apply Wk.cons (wkV.nilf _ _)), ⟨hg, hE, (Free.full _ _)⟩⟩ ?_
 rintro ⟨k5, x1, x3, x4, tl2⟩ H6 ⟨hg, hE, F7⟩ _
 try dsimp only at hg F7
 cases k5 with
 | zero => simp only [l41_0, reduceCtorEq] at hg
 | succ k5 =>
  rw [l41_0] at hg
  refine eawp_sound noY_sound _ _ _ _ ?_
  simp only [EVA, reduceIte, reduceCtorEq, Nat.reduceLT, Nat.reduceLeDiff, Int.reduceEq, Int.reduceLT, Int.reduceLE, Nat.reduceMul, (show IntKind.i64.wrap 1 = 1 from rfl)]
  rcases ite_some hg with ⟨h8, hg⟩ | ⟨h8, hg⟩
  ·refine Br.yes h8 ?_
   obtain ⟨h9, hg⟩ := guard_some hg
   have q10 : List.getD (List.map (AV.int .u64) a0) (Int.toNat x4) AV.undef = (AV.int .u64) (rd a0 x4) := rd_map (l := a0) (i := x4) (AV.int .u64) h9
   simp only [EVA, reduceIte, reduceCtorEq, Nat.reduceLT, Nat.reduceLeDiff, Int.reduceEq, Int.reduceLT, Int.reduceLE, Nat.reduceMul, eq_true h8, eq_true h9.1, eq_true h9.2, q10, (show IntKind.i64.wrap 1 = 1 from rfl)]
   rcases ite_some hg with ⟨h11, hg⟩ | ⟨h11, hg⟩
   ·refine Br.yes h11 ?_
    rcases ite_some hg with ⟨h12, hg⟩ | ⟨h12, hg⟩
    ·obtain ⟨h13, hg⟩ := guard_some hg
     have q14 : List.getD (List.map (AV.int .u64) a0) (Int.toNat x4) AV.undef = (AV.int .u64) (rd a0 x4) := rd_map (l := a0) (i := x4) (AV.int .u64) h13
     simp only [EVA, reduceIte, reduceCtorEq, Nat.reduceLT, Nat.reduceLeDiff, Int.reduceEq, Int.reduceLT, Int.reduceLE, Nat.reduceMul, eq_true h8, eq_true h9.1, eq_true h9.2, q10, eq_true h11, h12, eq_true h13.1, eq_true h13.2, q14, (show IntKind.i64.wrap 1 = 1 from rfl)]
     obtain ⟨h20, hg⟩ := guard_some hg
     refine AppE.goM (H0 := H) (AV.int .u64) x1 ([rd a0 x4] : List Int) (n := 17592186044416) ty27 rfl ty53 rfl rfl (by decide) (.dl 1 [.int .u64 (rd a0 x4)] .full) (wkD.refl _) (srcA_dl ty27 rfl) (.inl rfl) h20 (by decide) (by decide) hE F7 ?_
     intro tl15 H16 hE F17 p18 q19 l9
     simp only [EVA, reduceIte, reduceCtorEq, Nat.reduceLT, Nat.reduceLeDiff, Int.reduceEq, Int.reduceLT, Int.reduceLE, Nat.reduceMul, eq_true h8, eq_true h9.1, eq_true h9.2, q10, eq_true h11, h12, eq_true h13.1, eq_true h13.2, q14, (show IntKind.i64.wrap 1 = 1 from rfl)]
     exact ⟨⟨k5, x1 ++ ([rd a0 x4] : List Int), true, IntKind.i64.wrap (x4 + 1), tl15⟩, (by repeat' first | exact Wk.nil | apply Wk.u | apply Wk.r), ⟨hg, hE, F17⟩, Nat.lt_succ_self _⟩
    ·have h12 := Bool.eq_false_iff.2 h12
     simp only [EVA, reduceIte, reduceCtorEq, Nat.reduceLT, Nat.reduceLeDiff, Int.reduceEq, Int.reduceLT, Int.reduceLE, Nat.reduceMul, eq_true h8, eq_true h9.1, eq_true h9.2, q10, eq_true h11, h12, (show IntKind.i64.wrap 1 = 1 from rfl)]
     obtain ⟨h26, hg⟩ := guard_some hg
     refine AppE.goM (H0 := H) (AV.int .u64) x1 ([a1] : List Int) (n := 17592186044416) ty27 rfl ty53 rfl rfl (by decide) (.dl 1 [.int .u64 a1] .full) (wkD.refl _) (srcA_dl ty27 rfl) (.inl rfl) h26 (by decide) (by decide) hE F7 ?_
     intro tl21 H22 hE F23 p24 q25 l9
     obtain ⟨h27, hg⟩ := guard_some hg
     have q28 : List.getD (List.map (AV.int .u64) a0) (Int.toNat x4) AV.undef = (AV.int .u64) (rd a0 x4) := rd_map (l := a0) (i := x4) (AV.int .u64) h27
     obtain ⟨h29, hg⟩ := guard_some hg
     have q30 : List.getD (List.map (AV.int .u64) a0) (Int.toNat x4) AV.undef = (AV.int .u64) (rd a0 x4) := rd_map (l := a0) (i := x4) (AV.int .u64) h29
     simp only [EVA, reduceIte, reduceCtorEq, Nat.reduceLT, Nat.reduceLeDiff, Int.reduceEq, Int.reduceLT, Int.reduceLE, Nat.reduceMul, eq_true h8, eq_true h9.1, eq_true h9.2, q10, eq_true h11, h12, eq_true h27.1, eq_true h27.2, q28, eq_true h29.1, eq_true h29.2, q30, (show IntKind.i64.wrap 1 = 1 from rfl)]
     obtain ⟨h36, hg⟩ := guard_some hg
     refine AppE.goM (H0 := H) (AV.int .u64) (x1 ++ ([a1] : List Int)) ([rd a0 x4] : List Int) (n := 17592186044416) ty27 rfl ty53 rfl rfl (by decide) (.dl 1 [.int .u64 (rd a0 x4)] .full) (wkD.refl _) (srcA_dl ty27 rfl) (.inl rfl) h36 (by decide) (by decide) hE F23 ?_
     intro tl31 H32 hE F33 p34 q35 l9
     simp only [EVA, reduceIte, reduceCtorEq, Nat.reduceLT, Nat.reduceLeDiff, Int.reduceEq, Int.reduceLT, Int.reduceLE, Nat.reduceMul, eq_true h8, eq_true h9.1, eq_true h9.2, q10, eq_true h11, h12, eq_true h27.1, eq_true h27.2, q28, eq_true h29.1, eq_true h29.2, q30, (show IntKind.i64.wrap 1 = 1 from rfl)]
     exact ⟨⟨k5, (x1 ++ ([a1] : List Int)) ++ ([rd a0 x4] : List Int), (decide (a1 ≤ (rd a0 x4))), IntKind.i64.wrap (x4 + 1), tl31⟩, (by repeat' first | exact Wk.nil | apply Wk.u | apply Wk.r), ⟨hg, hE, F33⟩, Nat.lt_succ_self _⟩
   ·refine Br.no h11 ?_
    rcases ite_some hg with ⟨h37, hg⟩ | ⟨h37, hg⟩
    ·obtain ⟨h38, hg⟩ := guard_some hg
     have q39 : List.getD (List.map (AV.int .u64) a0) (Int.toNat x4) AV.undef = (AV.int .u64) (rd a0 x4) := rd_map (l := a0) (i := x4) (AV.int .u64) h38
     simp only [EVA, reduceIte, reduceCtorEq, Nat.reduceLT, Nat.reduceLeDiff, Int.reduceEq, Int.reduceLT, Int.reduceLE, Nat.reduceMul, eq_true h8, eq_true h9.1, eq_true h9.2, q10, eq_false h11, h37, eq_true h38.1, eq_true h38.2, q39, (show IntKind.i64.wrap 1 = 1 from rfl)]
     obtain ⟨h45, hg⟩ := guard_some hg
     refine AppE.goM (H0 := H) (AV.int .u64) x1 ([rd a0 x4] : List Int) (n := 17592186044416) ty27 rfl ty53 rfl rfl (by decide) (.dl 1 [.int .u64 (rd a0 x4)] .full) (wkD.refl _) (srcA_dl ty27 rfl) (.inl rfl) h45 (by decide) (by decide) hE F7 ?_
     intro tl40 H41 hE F42 p43 q44 l9
     simp only [EVA, reduceIte, reduceCtorEq, Nat.reduceLT, Nat.reduceLeDiff, Int.reduceEq, Int.reduceLT, Int.reduceLE, Nat.reduceMul, eq_true h8, eq_true h9.1, eq_true h9.2, q10, eq_false h11, h37, eq_true h38.1, eq_true h38.2, q39, (show IntKind.i64.wrap 1 = 1 from rfl)]
     exact ⟨⟨k5, x1 ++ ([rd a0 x4] : List Int), true, IntKind.i64.wrap (x4 + 1), tl40⟩, (by repeat' first | exact Wk.nil | apply Wk.u | apply Wk.r), ⟨hg, hE, F42⟩, Nat.lt_succ_self _⟩
    ·have h37 := Bool.eq_false_iff.2 h37
     obtain ⟨h46, hg⟩ := guard_some hg
     have q47 : List.getD (List.map (AV.int .u64) a0) (Int.toNat x4) AV.undef = (AV.int .u64) (rd a0 x4) := rd_map (l := a0) (i := x4) (AV.int .u64) h46
     obtain ⟨h48, hg⟩ := guard_some hg
     have q49 : List.getD (List.map (AV.int .u64) a0) (Int.toNat x4) AV.undef = (AV.int .u64) (rd a0 x4) := rd_map (l := a0) (i := x4) (AV.int .u64) h48
     simp only [EVA, reduceIte, reduceCtorEq, Nat.reduceLT, Nat.reduceLeDiff, Int.reduceEq, Int.reduceLT, Int.reduceLE, Nat.reduceMul, eq_true h8, eq_true h9.1, eq_true h9.2, q10, eq_false h11, h37, eq_true h46.1, eq_true h46.2, q47, eq_true h48.1, eq_true h48.2, q49, (show IntKind.i64.wrap 1 = 1 from rfl)]
     obtain ⟨h55, hg⟩ := guard_some hg
     refine AppE.goM (H0 := H) (AV.int .u64) x1 ([rd a0 x4] : List Int) (n := 17592186044416) ty27 rfl ty53 rfl rfl (by decide) (.dl 1 [.int .u64 (rd a0 x4)] .full) (wkD.refl _) (srcA_dl ty27 rfl) (.inl rfl) h55 (by decide) (by decide) hE F7 ?_
     intro tl50 H51 hE F52 p53 q54 l9
     simp only [EVA, reduceIte, reduceCtorEq, Nat.reduceLT, Nat.reduceLeDiff, Int.reduceEq, Int.reduceLT, Int.reduceLE, Nat.reduceMul, eq_true h8, eq_true h9.1, eq_true h9.2, q10, eq_false h11, h37, eq_true h46.1, eq_true h46.2, q47, eq_true h48.1, eq_true h48.2, q49, (show IntKind.i64.wrap 1 = 1 from rfl)]
     exact ⟨⟨k5, x1 ++ ([rd a0 x4] : List Int), (decide (a1 ≤ (rd a0 x4))), IntKind.i64.wrap (x4 + 1), tl50⟩, (by repeat' first | exact Wk.nil | apply Wk.u | apply Wk.r), ⟨hg, hE, F52⟩, Nat.lt_succ_self _⟩
  ·refine Br.no h8 ?_
   rcases ite_some hg with ⟨h56, hg⟩ | ⟨h56, hg⟩
   ·simp only [EVA, reduceIte, reduceCtorEq, Nat.reduceLT, Nat.reduceLeDiff, Int.reduceEq, Int.reduceLT, Int.reduceLE, Nat.reduceMul, rs41, eq_false h8, h56, (show IntKind.i64.wrap 1 = 1 from rfl)]
    obtain rfl := Option.some.inj hg
    exact ⟨_, (wkR.a (wkA.refl _)), (hK tl2 _ hE F7)⟩
   ·have h56 := Bool.eq_false_iff.2 h56
    simp only [EVA, reduceIte, reduceCtorEq, Nat.reduceLT, Nat.reduceLeDiff, Int.reduceEq, Int.reduceLT, Int.reduceLE, Nat.reduceMul, eq_false h8, h56, (show IntKind.i64.wrap 1 = 1 from rfl)]
    obtain ⟨h62, hg⟩ := guard_some hg
    refine AppE.goM (H0 := H) (AV.int .u64) x1 ([a1] : List Int) (n := 17592186044416) ty27 rfl ty53 rfl rfl (by decide) (.dl 1 [.int .u64 a1] .full) (wkD.refl _) (srcA_dl ty27 rfl) (.inl rfl) h62 (by decide) (by decide) hE F7 ?_
    intro tl57 H58 hE F59 p60 q61 l9
    simp only [EVA, reduceIte, reduceCtorEq, Nat.reduceLT, Nat.reduceLeDiff, Int.reduceEq, Int.reduceLT, Int.reduceLE, Nat.reduceMul, rs41, eq_false h8, h56, (show IntKind.i64.wrap 1 = 1 from rfl)]
    obtain rfl := Option.some.inj hg
    exact ⟨_, (wkR.a (wkA.refl _)), (hK tl57 _ hE F59)⟩
/-- skymosaic/skymosaicref38.Make -/
def l14_1 (n : Nat) (a0 : Int) (a1 : Int) (a4 : List Int) (v39 : (List Int)) (v47 : (List Int)) (x61 : List Int) (x63 : List Int) : Nat → Int → List Int → Option (S8 × Int)
 | 0, _, _ => none
 | k131 + 1, x128, x129 => if x128 < (a4.length : Int) then (if (0 : Int) ≤ x128 ∧ x128 < (a4.length : Int) then ((g41 n x129 (rd a4 x128)).bind fun v153 => (l14_1 n a0 a1 a4 v39 v47 x61 x63 k131) (IntKind.i64.wrap (x128 + 1)) v153) else none) else (some ((⟨a0, a1, v39, v47, x129, x61, x63⟩ : S8), 0))
def l14_0 (n : Nat) (a0 : Int) (a1 : Int) (a2 : List S2) (a3 : List S2) (a4 : List Int) (a5 : List (List S1)) (v39 : (List Int)) (v47 : (List Int)) : Nat → Int → List Int → List Int → Option (S8 × Int)
 | 0, _, _, _ => none
 | k65 + 1, x60, x61, x63 => if x60 < (a2.length : Int) then (if (0 : Int) ≤ x60 ∧ x60 < (a2.length : Int) then (if (0 : Int) ≤ x60 ∧ x60 < (a3.length : Int) then ((g38 n (⟨(rd a2 x60).c0, (rd a2 x60).c1, (rd a2 x60).c2, (rd a2 x60).c3, (rd a2 x60).c4, (rd a2 x60).c5, (rd a2 x60).c6⟩ : S2) (⟨(rd a3 x60).c0, (rd a3 x60).c1, (rd a3 x60).c2, (rd a3 x60).c3, (rd a3 x60).c4, (rd a3 x60).c5, (rd a3 x60).c6⟩ : S2) a1).bind fun v84 => if v84 = true then (if (0 : Int) ≤ x60 ∧ x60 < (a3.length : Int) then (if x61.length + 1 ≤ 17592186044416 then (if (0 : Int) ≤ x60 ∧ x60 < (a5.length : Int) then ((g39 n (rd a5 x60)).bind fun v104 => if x63.length + 1 ≤ 17592186044416 then ((l14_0 n a0 a1 a2 a3 a4 a5 v39 v47 k65) (IntKind.i64.wrap (x60 + 1)) (x61 ++ ([(rd a3 x60).c5] : List Int)) (x63 ++ ([v104] : List Int))) else none) else none) else none) else none) else (some ((⟨0, 0, ([] : List Int), ([] : List Int), ([] : List Int), ([] : List Int), ([] : List Int)⟩ : S8), 1))) else none) else none) else ((g40 n a5 a4).bind fun v121 => if v121 = true then (some ((⟨0, 0, ([] : List Int), ([] : List Int), ([] : List Int), ([] : List Int), ([] : List Int)⟩ : S8), 17)) else (l14_1 n a0 a1 a4 v39 v47 x61 x63 n 0 ([] : List Int)))
theorem rs14 : Tryz.f14.results.toList = [.cell 12 41, .tmp 13] := rfl
def g14 (n : Nat) (a0 : Int) (a1 : Int) (a2 : List S2) (a3 : List S2) (a4 : List Int) (a5 : List (List S1)) : Option (S8 × Int) := if a0 < 0 then (some ((⟨0, 0, ([] : List Int), ([] : List Int), ([] : List Int), ([] : List Int), ([] : List Int)⟩ : S8), 1)) else (if 4095 < a0 then (some ((⟨0, 0, ([] : List Int), ([] : List Int), ([] : List Int), ([] : List Int), ([] : List Int)⟩ : S8), 1)) else (if a1 < 0 then (some ((⟨0, 0, ([] : List Int), ([] : List Int), ([] : List Int), ([] : List Int), ([] : List Int)⟩ : S8), 1)) else (if 1099511627776 < a1 then (some ((⟨0, 0, ([] : List Int), ([] : List Int), ([] : List Int), ([] : List Int), ([] : List Int)⟩ : S8), 1)) else (if (a3.length : Int) = (a2.length : Int) then (if (a5.length : Int) = (a2.length : Int) then (if 1024 < (a2.length : Int) then (some ((⟨0, 0, ([] : List Int), ([] : List Int), ([] : List Int), ([] : List Int), ([] : List Int)⟩ : S8), 1)) else ((g37 n a2).bind fun v20 => (g36 n v20).bind fun v26 => if v26 = true then ((g37 n a3).bind fun v29 => (g36 n v29).bind fun v36 => if v36 = true then ((g37 n a2).bind fun v39 => (g37 n a3).bind fun v47 => l14_0 n a0 a1 a2 a3 a4 a5 v39 v47 n 0 ([] : List Int) ([] : List Int)) else (some ((⟨0, 0, ([] : List Int), ([] : List Int), ([] : List Int), ([] : List Int), ([] : List Int)⟩ : S8), 1))) else (some ((⟨0, 0, ([] : List Int), ([] : List Int), ([] : List Int), ([] : List Int), ([] : List Int)⟩ : S8), 1)))) else (some ((⟨0, 0, ([] : List Int), ([] : List Int), ([] : List Int), ([] : List Int), ([] : List Int)⟩ : S8), 1))) else (some ((⟨0, 0, ([] : List Int), ([] : List Int), ([] : List Int), ([] : List Int), ([] : List Int)⟩ : S8), 1))))))
theorem c14 (B : Nat) (w0 : World) (n : Nat) (a0 : Int) (a1 : Int) (a2 : List S2) (a3 : List S2) (a4 : List Int) (a5 : List (List S1)) (ta2 : Tail) (ta3 : Tail) (ta4 : Tail) (ta5 : Tail) (H : AHeap) (K : AV → AHeap → Prop) (r : (S8 × Int)) (hg : g14 n a0 a1 a2 a3 a4 a5 = some r)  (hK : ∀ (H' : AHeap), Ext H H' → K (.tup [.agg [.int .i64 r.1.c0, .int .i64 r.1.c1, .dl 1 (List.map (AV.int .i64) r.1.c2) .none, .dl 1 (List.map (AV.int .i64) r.1.c3) .none, .dl 1 (List.map (AV.int .u64) r.1.c4) .none, .dl 1 (List.map (AV.int .u64) r.1.c5) .none, .dl 1 (List.map (AV.int .u64) r.1.c6) .none], .int .i64 r.2]) H') : ACall Tryz.prog B w0 14 [.int .i64 a0, .int .i64 a1, .dl 7 (List.map encS2 a2) ta2, .dl 7 (List.map encS2 a3) ta3, .dl 1 (List.map (AV.int .u64) a4) ta4, .dl 1 (List.map encL3 a5) ta5] H K := by
 refine ACall.wkR ?_
 unfold g14 at hg
 refine ACall.enter Tryz.func14 (by kernel_rfl) rfl (eawp_sound noY_sound _ _ _ _ ?_)
 have hE : Ext H H := Ext.refl H
 simp only [EVA, reduceIte, reduceCtorEq, Nat.reduceLT, Nat.reduceLeDiff, Int.reduceEq, Int.reduceLT, Int.reduceLE, Nat.reduceMul, Tryz.ntmps14, rs14, (show IntKind.i64.wrap 1 = 1 from rfl)]
 refine eop_alloc_go (H0 := H) ty41 rfl rfl hE ?_
 intro o1 H2 hE xo1 g_o1 f_o1 n_o1
 have f_o1 : H2[o1]? = some (.cells ([.int .i64 0, .int .i64 0, .dl 0 [] .full, .dl 0 [] .full, .dl 0 [] .full, .dl 0 [] .full, .dl 0 [] .full])) := f_o1
 simp only [EVA, reduceIte, reduceCtorEq, Nat.reduceLT, Nat.reduceLeDiff, Int.reduceEq, Int.reduceLT, Int.reduceLE, Nat.reduceMul, f_o1, (show IntKind.i64.wrap 1 = 1 from rfl)]
 rcases ite_some hg with ⟨h3, hg⟩ | ⟨h3, hg⟩
 ·refine Br.yes h3 ?_
  simp only [EVA, reduceIte, reduceCtorEq, Nat.reduceLT, Nat.reduceLeDiff, Int.reduceEq, Int.reduceLT, Int.reduceLE, Nat.reduceMul, eq_true h3, f_o1, (show IntKind.i64.wrap 1 = 1 from rfl)]
  refine eop_store_go (H0 := H) (id := o1) (off := 0) (v := .agg [.int .i64 0, .int .i64 0, .dl 0 [] .full, .dl 0 [] .full, .dl 0 [] .full, .dl 0 [] .full, .dl 0 [] .full]) rfl rfl f_o1 ty41 rfl rfl (Nat.le_of_ble_eq_true rfl) hE g_o1 ?_
  intro H4 hE f9_o1 p5 l9
  have f_o1 : H4[o1]? = some (.cells ([.int .i64 0, .int .i64 0, .dl 0 [] .full, .dl 0 [] .full, .dl 0 [] .full, .dl 0 [] .full, .dl 0 [] .full])) := f9_o1
  simp only [EVA, reduceIte, reduceCtorEq, Nat.reduceLT, Nat.reduceLeDiff, Int.reduceEq, Int.reduceLT, Int.reduceLE, Nat.reduceMul, rs14, eq_true h3, f_o1, (show IntKind.i64.wrap 1 = 1 from rfl)]
  obtain rfl := Option.some.inj hg
  exact ⟨_, (wkR.tup (WkA.cons (wkA.agg (by repeat' first | exact Wk.nil | apply Wk.u | apply Wk.r | apply Wk.cons (wkV.nil _ _ _))) (WkA.r WkA.nil))), (hK  _ hE )⟩
 ·refine Br.no h3 ?_
  simp only [EVA, reduceIte, reduceCtorEq, Nat.reduceLT, Nat.reduceLeDiff, Int.reduceEq, Int.reduceLT, Int.reduceLE, Nat.reduceMul, eq_false h3, f_o1, (show IntKind.i64.wrap 1 = 1 from rfl)]
  rcases ite_some hg with ⟨h6, hg⟩ | ⟨h6, hg⟩
  ·refine Br.yes h6 ?_
   simp only [EVA, reduceIte, reduceCtorEq, Nat.reduceLT, Nat.reduceLeDiff, Int.reduceEq, Int.reduceLT, Int.reduceLE, Nat.reduceMul, eq_false h3, eq_true h6, f_o1, (show IntKind.i64.wrap 1 = 1 from rfl)]
   refine eop_store_go (H0 := H) (id := o1) (off := 0) (v := .agg [.int .i64 0, .int .i64 0, .dl 0 [] .full, .dl 0 [] .full, .dl 0 [] .full, .dl 0 [] .full, .dl 0 [] .full]) rfl rfl f_o1 ty41 rfl rfl (Nat.le_of_ble_eq_true rfl) hE g_o1 ?_
   intro H7 hE f9_o1 p8 l9
   have f_o1 : H7[o1]? = some (.cells ([.int .i64 0, .int .i64 0, .dl 0 [] .full, .dl 0 [] .full, .dl 0 [] .full, .dl 0 [] .full, .dl 0 [] .full])) := f9_o1
   simp only [EVA, reduceIte, reduceCtorEq, Nat.reduceLT, Nat.reduceLeDiff, Int.reduceEq, Int.reduceLT, Int.reduceLE, Nat.reduceMul, rs14, eq_false h3, eq_true h6, f_o1, (show IntKind.i64.wrap 1 = 1 from rfl)]
   obtain rfl := Option.some.inj hg
   exact ⟨_, (wkR.tup (WkA.cons (wkA.agg (by repeat' first | exact Wk.nil | apply Wk.u | apply Wk.r | apply Wk.cons (wkV.nil _ _ _))) (WkA.r WkA.nil))), (hK  _ hE )⟩
  ·refine Br.no h6 ?_
   simp only [EVA, reduceIte, reduceCtorEq, Nat.reduceLT, Nat.reduceLeDiff, Int.reduceEq, Int.reduceLT, Int.reduceLE, Nat.reduceMul, eq_false h3, eq_false h6, f_o1, (show IntKind.i64.wrap 1 = 1 from rfl)]
   rcases ite_some hg with ⟨h9, hg⟩ | ⟨h9, hg⟩
   ·refine Br.yes h9 ?_
    simp only [EVA, reduceIte, reduceCtorEq, Nat.reduceLT, Nat.reduceLeDiff, Int.reduceEq, Int.reduceLT, Int.reduceLE, Nat.reduceMul, eq_false h3, eq_false h6, eq_true h9, f_o1, (show IntKind.i64.wrap 1 = 1 from rfl)]
    refine eop_store_go (H0 := H) (id := o1) (off := 0) (v := .agg [.int .i64 0, .int .i64 0, .dl 0 [] .full, .dl 0 [] .full, .dl 0 [] .full, .dl 0 [] .full, .dl 0 [] .full]) rfl rfl f_o1 ty41 rfl rfl (Nat.le_of_ble_eq_true rfl) hE g_o1 ?_
    intro H10 hE f9_o1 p11 l9
    have f_o1 : H10[o1]? = some (.cells ([.int .i64 0, .int .i64 0, .dl 0 [] .full, .dl 0 [] .full, .dl 0 [] .full, .dl 0 [] .full, .dl 0 [] .full])) := f9_o1
    simp only [EVA, reduceIte, reduceCtorEq, Nat.reduceLT, Nat.reduceLeDiff, Int.reduceEq, Int.reduceLT, Int.reduceLE, Nat.reduceMul, rs14, eq_false h3, eq_false h6, eq_true h9, f_o1, (show IntKind.i64.wrap 1 = 1 from rfl)]
    obtain rfl := Option.some.inj hg
    exact ⟨_, (wkR.tup (WkA.cons (wkA.agg (by repeat' first | exact Wk.nil | apply Wk.u | apply Wk.r | apply Wk.cons (wkV.nil _ _ _))) (WkA.r WkA.nil))), (hK  _ hE )⟩
   ·refine Br.no h9 ?_
    simp only [EVA, reduceIte, reduceCtorEq, Nat.reduceLT, Nat.reduceLeDiff, Int.reduceEq, Int.reduceLT, Int.reduceLE, Nat.reduceMul, eq_false h3, eq_false h6, eq_false h9, f_o1, (show IntKind.i64.wrap 1 = 1 from rfl)]
    rcases ite_some hg with ⟨h12, hg⟩ | ⟨h12, hg⟩
    ·refine Br.yes h12 ?_
     simp only [EVA, reduceIte, reduceCtorEq, Nat.reduceLT, Nat.reduceLeDiff, Int.reduceEq, Int.reduceLT, Int.reduceLE, Nat.reduceMul, eq_false h3, eq_false h6, eq_false h9, eq_true h12, f_o1, (show IntKind.i64.wrap 1 = 1 from rfl)]
     refine eop_store_go (H0 := H) (id := o1) (off := 0) (v := .agg [.int .i64 0, .int .i64 0, .dl 0 [] .full, .dl 0 [] .full, .dl 0 [] .full, .dl 0 [] .full, .dl 0 [] .full]) rfl rfl f_o1 ty41 rfl rfl (Nat.le_of_ble_eq_true rfl) hE g_o1 ?_
     intro H13 hE f9_o1 p14 l9
     have f_o1 : H13[o1]? = some (.cells ([.int .i64 0, .int .i64 0, .dl 0 [] .full, .dl 0 [] .full, .dl 0 [] .full, .dl 0 [] .full, .dl 0 [] .full])) := f9_o1
     simp only [EVA, reduceIte, reduceCtorEq, Nat.reduceLT, Nat.reduceLeDiff, Int.reduceEq, Int.reduceLT, Int.reduceLE, Nat.reduceMul, rs14, eq_false h3, eq_false h6, eq_false h9, eq_true h12, f_o1, (show IntKind.i64.wrap 1 = 1 from rfl)]
     obtain rfl := Option.some.inj hg
     exact ⟨_, (wkR.tup (WkA.cons (wkA.agg (by repeat' first | exact Wk.nil | apply Wk.u | apply Wk.r | apply Wk.cons (wkV.nil _ _ _))) (WkA.r WkA.nil))), (hK  _ hE )⟩
    ·refine Br.no h12 ?_
     simp only [EVA, reduceIte, reduceCtorEq, Nat.reduceLT, Nat.reduceLeDiff, Int.reduceEq, Int.reduceLT, Int.reduceLE, Nat.reduceMul, eq_false h3, eq_false h6, eq_false h9, eq_false h12, f_o1, (show IntKind.i64.wrap 1 = 1 from rfl)]
     rcases ite_some hg with ⟨h15, hg⟩ | ⟨h15, hg⟩
     ·refine Br.yes h15 ?_
      simp only [EVA, reduceIte, reduceCtorEq, Nat.reduceLT, Nat.reduceLeDiff, Int.reduceEq, Int.reduceLT, Int.reduceLE, Nat.reduceMul, eq_false h3, eq_false h6, eq_false h9, eq_false h12, eq_true h15, f_o1, (show IntKind.i64.wrap 1 = 1 from rfl)]
      rcases ite_some hg with ⟨h16, hg⟩ | ⟨h16, hg⟩
      ·refine Br.yes h16 ?_
       simp only [EVA, reduceIte, reduceCtorEq, Nat.reduceLT, Nat.reduceLeDiff, Int.reduceEq, Int.reduceLT, Int.reduceLE, Nat.reduceMul, eq_false h3, eq_false h6, eq_false h9, eq_false h12, eq_true h15, eq_true h16, f_o1, (show IntKind.i64.wrap 1 = 1 from rfl)]
       rcases ite_some hg with ⟨h17, hg⟩ | ⟨h17, hg⟩
       ·refine Br.yes h17 ?_
        simp only [EVA, reduceIte, reduceCtorEq, Nat.reduceLT, Nat.reduceLeDiff, Int.reduceEq, Int.reduceLT, Int.reduceLE, Nat.reduceMul, eq_false h3, eq_false h6, eq_false h9, eq_false h12, eq_true h15, eq_true h16, eq_true h17, f_o1, (show IntKind.i64.wrap 1 = 1 from rfl)]
        refine eop_store_go (H0 := H) (id := o1) (off := 0) (v := .agg [.int .i64 0, .int .i64 0, .dl 0 [] .full, .dl 0 [] .full, .dl 0 [] .full, .dl 0 [] .full, .dl 0 [] .full]) rfl rfl f_o1 ty41 rfl rfl (Nat.le_of_ble_eq_true rfl) hE g_o1 ?_
        intro H18 hE f9_o1 p19 l9
        have f_o1 : H18[o1]? = some (.cells ([.int .i64 0, .int .i64 0, .dl 0 [] .full, .dl 0 [] .full, .dl 0 [] .full, .dl 0 [] .full, .dl 0 [] .full])) := f9_o1
        simp only [EVA, reduceIte, reduceCtorEq, Nat.reduceLT, Nat.reduceLeDiff, Int.reduceEq, Int.reduceLT, Int.reduceLE, Nat.reduceMul, rs14, eq_false h3, eq_false h6, eq_false h9, eq_false h12, eq_true h15, eq_true h16, eq_true h17, f_o1, (show IntKind.i64.wrap 1 = 1 from rfl)]
        obtain rfl := Option.some.inj hg
        exact ⟨_, (wkR.tup (WkA.cons (wkA.agg (by repeat' first | exact Wk.nil | apply Wk.u | apply Wk.r | apply Wk.cons (wkV.nil _ _ _))) (WkA.r WkA.nil))), (hK  _ hE )⟩
       ·refine Br.no h17 ?_
        simp only [EVA, reduceIte, reduceCtorEq, Nat.reduceLT, Nat.reduceLeDiff, Int.reduceEq, Int.reduceLT, Int.reduceLE, Nat.reduceMul, eq_false h3, eq_false h6, eq_false h9, eq_false h12, eq_true h15, eq_true h16, eq_false h17, f_o1, (show IntKind.i64.wrap 1 = 1 from rfl)]
        obtain ⟨v20, ch21, hg⟩ := bind_some hg
        refine ACall.wkA (args := [.dl 7 (List.map encS2 a2) ta2]) (c37 B w0 n a2 ta2 _ _ v20 ch21  ?_) (WkA.r WkA.nil)
        intro tl22 H23 x24 F25
        have F25 := F25.low hE
        have f_o1 := x24.2 _ _ f_o1
        have hE := hE.trans x24
        simp only [EVA, reduceIte, reduceCtorEq, Nat.reduceLT, Nat.reduceLeDiff, Int.reduceEq, Int.reduceLT, Int.reduceLE, Nat.reduceMul, eq_false h3, eq_false h6, eq_false h9, eq_false h12, eq_true h15, eq_true h16, eq_false h17, f_o1, (show IntKind.i64.wrap 1 = 1 from rfl)]
        obtain ⟨v26, ch27, hg⟩ := bind_some hg
        refine ACall.wkA (args := [.dl 1 (List.map (AV.int .i64) v20) tl22]) (c36 B w0 n v20 tl22 _ _ v26 ch27  ?_) (WkA.r WkA.nil)
        rcases ite_some hg with ⟨h28, hg⟩ | ⟨h28, hg⟩
        ·simp only [EVA, reduceIte, reduceCtorEq, Nat.reduceLT, Nat.reduceLeDiff, Int.reduceEq, Int.reduceLT, Int.reduceLE, Nat.reduceMul, eq_false h3, eq_false h6, eq_false h9, eq_false h12, eq_true h15, eq_true h16, eq_false h17, h28, f_o1, (show IntKind.i64.wrap 1 = 1 from rfl)]
         obtain ⟨v29, ch30, hg⟩ := bind_some hg
         refine ACall.wkA (args := [.dl 7 (List.map encS2 a3) ta3]) (c37 B w0 n a3 ta3 _ _ v29 ch30  ?_) (WkA.r WkA.nil)
         intro tl31 H32 x33 F34
         have D35 := Free.ne F25 F34
         have F25 := F25.mono x33
         have F34 := F34.low hE
         have f_o1 := x33.2 _ _ f_o1
         have hE := hE.trans x33
         simp only [EVA, reduceIte, reduceCtorEq, Nat.reduceLT, Nat.reduceLeDiff, Int.reduceEq, Int.reduceLT, Int.reduceLE, Nat.reduceMul, eq_false h3, eq_false h6, eq_false h9, eq_false h12, eq_true h15, eq_true h16, eq_false h17, h28, f_o1, (show IntKind.i64.wrap 1 = 1 from rfl)]
         obtain ⟨v36, ch37, hg⟩ := bind_some hg
         refine ACall.wkA (args := [.dl 1 (List.map (AV.int .i64) v29) tl31]) (c36 B w0 n v29 tl31 _ _ v36 ch37  ?_) (WkA.r WkA.nil)
         rcases ite_some hg with ⟨h38, hg⟩ | ⟨h38, hg⟩
         ·simp only [EVA, reduceIte, reduceCtorEq, Nat.reduceLT, Nat.reduceLeDiff, Int.reduceEq, Int.reduceLT, Int.reduceLE, Nat.reduceMul, eq_false h3, eq_false h6, eq_false h9, eq_false h12, eq_true h15, eq_true h16, eq_false h17, h28, h38, f_o1, (show IntKind.i64.wrap 1 = 1 from rfl)]
          obtain ⟨v39, ch40, hg⟩ := bind_some hg
          refine ACall.wkA (args := [.dl 7 (List.map encS2 a2) ta2]) (c37 B w0 n a2 ta2 _ _ v39 ch40  ?_) (WkA.r WkA.nil)
          intro tl41 H42 x43 F44
          have D45 := Free.ne F25 F44
          have D46 := Free.ne F34 F44
          have F25 := F25.mono x43
          have F34 := F34.mono x43
          have F44 := F44.low hE
          have f_o1 := x43.2 _ _ f_o1
          have hE := hE.trans x43
          simp only [EVA, reduceIte, reduceCtorEq, Nat.reduceLT, Nat.reduceLeDiff, Int.reduceEq, Int.reduceLT, Int.reduceLE, Nat.reduceMul, eq_false h3, eq_false h6, eq_false h9, eq_false h12, eq_true h15, eq_true h16, eq_false h17, h28, h38, f_o1, (show IntKind.i64.wrap 1 = 1 from rfl)]
          obtain ⟨v47, ch48, hg⟩ := bind_some hg
          refine ACall.wkA (args := [.dl 7 (List.map encS2 a3) ta3]) (c37 B w0 n a3 ta3 _ _ v47 ch48  ?_) (WkA.r WkA.nil)
          intro tl49 H50 x51 F52
          have D53 := Free.ne F25 F52
          have D54 := Free.ne F34 F52
          have D55 := Free.ne F44 F52
          have F25 := F25.mono x51
          have F34 := F34.mono x51
          have F44 := F44.mono x51
          have F52 := F52.low hE
          have f_o1 := x51.2 _ _ f_o1
          have hE := hE.trans x51
          simp only [EVA, reduceIte, reduceCtorEq, Nat.reduceLT, Nat.reduceLeDiff, Int.reduceEq, Int.reduceLT, Int.reduceLE, Nat.reduceMul, eq_false h3, eq_false h6, eq_false h9, eq_false h12, eq_true h15, eq_true h16, eq_false h17, h28, h38, f_o1, (show IntKind.i64.wrap 1 = 1 from rfl)]
          refine eop_alloc_go (H0 := H) ty41 rfl rfl hE ?_
          intro o56 H57 hE xo56 g_o56 f_o56 n_o56
          have ne_o1_o56 := n_o56 _ _ f_o1
          have f_o1 := xo56.2 _ _ f_o1
          have F25 := F25.mono xo56
          have F34 := F34.mono xo56
          have F44 := F44.mono xo56
          have F52 := F52.mono xo56
          have f_o56 : H57[o56]? = some (.cells ([.int .i64 0, .int .i64 0, .dl 0 [] .full, .dl 0 [] .full, .dl 0 [] .full, .dl 0 [] .full, .dl 0 [] .full])) := f_o56
          simp only [EVA, reduceIte, reduceCtorEq, Nat.reduceLT, Nat.reduceLeDiff, Int.reduceEq, Int.reduceLT, Int.reduceLE, Nat.reduceMul, eq_false h3, eq_false h6, eq_false h9, eq_false h12, eq_true h15, eq_true h16, eq_false h17, h28, h38, f_o1, f_o56, (show IntKind.i64.wrap 1 = 1 from rfl)]
          refine eop_store_go (H0 := H) (id := o56) (off := 0) (v := .agg [.int .i64 a0, .int .i64 a1, .dl 1 (List.map (AV.int .i64) v39) tl41, .dl 1 (List.map (AV.int .i64) v47) tl49, .dl 0 [] .full, .dl 0 [] .full, .dl 0 [] .full]) rfl rfl f_o56 ty41 rfl rfl (Nat.le_of_ble_eq_true rfl) hE g_o56 ?_
          intro H58 hE f9_o56 p59 l9
          have F25 := F25.keep f_o56 p59
          have F34 := F34.keep f_o56 p59
          have F44 := F44.keep f_o56 p59
          have F52 := F52.keep f_o56 p59
          have f_o1 := p59 _ _ ne_o1_o56 f_o1
          have f_o56 : H58[o56]? = some (.cells ([.int .i64 a0, .int .i64 a1, .dl 1 (List.map (AV.int .i64) v39) tl41, .dl 1 (List.map (AV.int .i64) v47) tl49, .dl 0 [] .full, .dl 0 [] .full, .dl 0 [] .full])) := f9_o56
          simp only [EVA, reduceIte, reduceCtorEq, Nat.reduceLT, Nat.reduceLeDiff, Int.reduceEq, Int.reduceLT, Int.reduceLE, Nat.reduceMul, eq_false h3, eq_false h6, eq_false h9, eq_false h12, eq_true h15, eq_true h16, eq_false h17, h28, h38, f_o1, f_o56, (show IntKind.i64.wrap 1 = 1 from rfl)]
          refine AWP.loop (σ := Nat × Int × List Int × List Int × Tail × Tail) (fun s => [.undef, .int .i64 a1, .dl 7 (List.map encS2 a2) ta2, .dl 7 (List.map encS2 a3) ta3, .dl 1 (List.map (AV.int .u64) a4) ta4, .dl 1 (List.map encL3 a5) ta5, .undef, .undef, .undef, .undef, .undef, .undef, .ptr o1 0, .undef, .int .i64 (a2.length : Int), .ptr o56 0, .int .i64 s.2.1, .undef, .undef, .undef, .undef, .undef, .undef, .undef, .undef, .undef, .undef, .undef, .undef, .undef, .undef, .undef, .undef, .undef, .undef, .undef, .undef, .undef, .undef, .undef, .undef, .undef, .undef, .undef, .undef, .undef, .undef, .undef, .undef, .undef, .undef, .undef, .undef, .undef, .undef, .undef, .undef, .undef, .undef, .undef, .undef, .undef, .undef, .undef, .undef, .undef, .undef, .undef, .undef, .undef, .undef, .undef, .undef, .undef, .undef, .undef, .undef, .undef, .undef, .undef, .undef, .undef, .undef, .undef, .undef, .undef, .undef, .undef, .undef, .undef, .undef, .undef, .undef, .undef, .undef, .undef, .undef, .undef, .undef, .undef, .undef, .undef, .undef, .undef, .undef, .undef, .undef, .undef, .undef, .undef, .undef, .undef, .undef, .undef, .undef, .undef, .undef, .undef, .undef, .undef, .undef, .undef, .undef, .undef, .undef, .undef]) (fun s H' => l14_0 n a0 a1 a2 a3 a4 a5 v39 v47 s.1 s.2.1 s.2.2.1 s.2.2.2.1 = some r ∧ Ext H H' ∧ ObjAt H' o1 ([.int .i64 0, .int .i64 0, .dl 0 [] .full, .dl 0 [] .full, .dl 0 [] .full, .dl 0 [] .full, .dl 0 [] .full]) ∧ ObjW H' o56 ([.int .i64 a0, .int .i64 a1, .dl 1 (List.map (AV.int .i64) v39) tl41, .dl 1 (List.map (AV.int .i64) v47) tl49, .dl 0 [] .full, .dl 1 (List.map (AV.int .u64) s.2.2.1) s.2.2.2.2.1, .dl 1 (List.map (AV.int .u64) s.2.2.2.1) s.2.2.2.2.2]) ∧ Free H H' tl41 ∧ Free H H' tl49 ∧ Free H H' s.2.2.2.2.1 ∧ Free H H' s.2.2.2.2.2 ∧ tlNe tl41 tl49 ∧ tlNe tl41 s.2.2.2.2.1 ∧ tlNe tl41 s.2.2.2.2.2 ∧ tlNe tl49 s.2.2.2.2.1 ∧ tlNe tl49 s.2.2.2.2.2 ∧ tlNe s.2.2.2.2.1 s.2.2.2.2.2) (fun s => s.1) ⟨⟨n, 0, ([] : List Int), ([] : List Int), .full, .full⟩, (by repeat' first | exact Wk.nil | apply Wk.u | apply Wk.r), ⟨hg, hE, f_o1, ⟨_, f_o56, (by repeat' first | exact Wk.nil | apply Wk.u | apply Wk.r | apply Wk.cons (wkV.nilf _ _))⟩, F44, F52, (Free.full _ _), (Free.full _ _), D55.symm, (tlNe.full' _), (tlNe.full' _), (tlNe.full' _), (tlNe.full' _), (tlNe.full _)⟩⟩ ?_
          rintro ⟨k65, x60, x61, x63, tl62, tl64⟩ H66 ⟨hg, hE, f9_o1, f_o56, F67, F68, F69, F70, D71, D72, D73, D74, D75, D76⟩ _
          have f_o1 : H66[o1]? = some (.cells ([.int .i64 0, .int .i64 0, .dl 0 [] .full, .dl 0 [] .full, .dl 0 [] .full, .dl 0 [] .full, .dl 0 [] .full])) := f9_o1
          clear f9_o1
          try dsimp only at hg f_o56 F67 F68 F69 F70 D71 D72 D73 D74 D75 D76
          cases k65 with
          | zero => simp only [l14_0, reduceCtorEq] at hg
          | succ k65 =>
           rw [l14_0] at hg
           obtain ⟨cs_o56, f_o56, w_o56⟩ := f_o56
           refine AWP.wkGo (H0 := H) f_o56 w_o56 hE g_o56 ?_
           intro H77 hE f9_o56 p78 l9
           have F67 := F67.keep f_o56 p78
           have F68 := F68.keep f_o56 p78
           have F69 := F69.keep f_o56 p78
           have F70 := F70.keep f_o56 p78
           have f_o1 := p78 _ _ ne_o1_o56 f_o1
           have f_o56 : H77[o56]? = some (.cells ([.int .i64 a0, .int .i64 a1, .dl 1 (List.map (AV.int .i64) v39) tl41, .dl 1 (List.map (AV.int .i64) v47) tl49, .dl 0 [] .full, .dl 1 (List.map (AV.int .u64) x61) tl62, .dl 1 (List.map (AV.int .u64) x63) tl64])) := f9_o56
           refine eawp_sound noY_sound _ _ _ _ ?_
           simp only [EVA, reduceIte, reduceCtorEq, Nat.reduceLT, Nat.reduceLeDiff, Int.reduceEq, Int.reduceLT, Int.reduceLE, Nat.reduceMul, eq_false h3, eq_false h6, eq_false h9, eq_false h12, eq_true h15, eq_true h16, eq_false h17, h28, h38, f_o1, f_o56, (show IntKind.i64.wrap 1 = 1 from rfl)]
           rcases ite_some hg with ⟨h79, hg⟩ | ⟨h79, hg⟩
           ·refine Br.yes h79 ?_
            simp only [EVA, reduceIte, reduceCtorEq, Nat.reduceLT, Nat.reduceLeDiff, Int.reduceEq, Int.reduceLT, Int.reduceLE, Nat.reduceMul, eq_false h3, eq_false h6, eq_false h9, eq_false h12, eq_true h15, eq_true h16, eq_false h17, h28, h38, eq_true h79, f_o1, f_o56, (show IntKind.i64.wrap 1 = 1 from rfl)]
            refine AWP.draw noY_sound [[], [], [0, 1], [0, 1, 2], [], [], [4, 5], [4, 5, 6], [], [0, 1, 2, 3, 4, 5, 6, 7, 8], [0, 1, 2, 3, 4, 5, 6, 7, 8, 9]] [⟨0, false, []⟩, ⟨1, false, []⟩, ⟨2, false, []⟩, ⟨3, false, []⟩, ⟨4, false, []⟩, ⟨5, false, []⟩, ⟨6, false, []⟩, ⟨7, false, []⟩, ⟨8, false, []⟩, ⟨9, true, []⟩, ⟨10, false, []⟩] [0, 1, 2, 3, 4, 5, 6, 7, 8, 9, 10] [0, 1, 2, 3, 4, 5, 6, 7, 8, 9, 10] (by kernel_rfl) ?_
            obtain ⟨h80, hg⟩ := guard_some hg
            have q81 : List.getD (List.map encS2 a2) (Int.toNat x60) AV.undef = encS2 (rd a2 x60) := rd_map (l := a2) (i := x60) encS2 h80
            obtain ⟨h82, hg⟩ := guard_some hg
            have q83 : List.getD (List.map encS2 a3) (Int.toNat x60) AV.undef = encS2 (rd a3 x60) := rd_map (l := a3) (i := x60) encS2 h82
            simp only [EVA, reduceIte, reduceCtorEq, Nat.reduceLT, Nat.reduceLeDiff, Int.reduceEq, Int.reduceLT, Int.reduceLE, Nat.reduceMul, eq_false h3, eq_false h6, eq_false h9, eq_false h12, eq_true h15, eq_true h16, eq_false h17, h28, h38, eq_true h79, eq_true h80.1, eq_true h80.2, q81, eq_true h82.1, eq_true h82.2, q83, f_o1, f_o56, (show IntKind.i64.wrap 1 = 1 from rfl)]
            obtain ⟨v84, ch85, hg⟩ := bind_some hg
            refine ACall.wkA (args := [.agg [.int .i64 ((rd a2 x60).c0), .str ((rd a2 x60).c1), .int .i64 ((rd a2 x60).c2), .int .i64 ((rd a2 x60).c3), .int .i64 ((rd a2 x60).c4), .int .u64 ((rd a2 x60).c5), .bool (rd a2 x60).c6], .agg [.int .i64 ((rd a3 x60).c0), .str ((rd a3 x60).c1), .int .i64 ((rd a3 x60).c2), .int .i64 ((rd a3 x60).c3), .int .i64 ((rd a3 x60).c4), .int .u64 ((rd a3 x60).c5), .bool (rd a3 x60).c6], .int .i64 a1]) (c38 B w0 n (⟨(rd a2 x60).c0, (rd a2 x60).c1, (rd a2 x60).c2, (rd a2 x60).c3, (rd a2 x60).c4, (rd a2 x60).c5, (rd a2 x60).c6⟩ : S2) (⟨(rd a3 x60).c0, (rd a3 x60).c1, (rd a3 x60).c2, (rd a3 x60).c3, (rd a3 x60).c4, (rd a3 x60).c5, (rd a3 x60).c6⟩ : S2) a1 _ _ v84 ch85  ?_) (WkA.r (WkA.r (WkA.r WkA.nil)))
            intro H86 x87
            have F67 := F67.mono x87
            have F68 := F68.mono x87
            have F69 := F69.mono x87
            have F70 := F70.mono x87
            have f_o1 := x87.2 _ _ f_o1
            have f_o56 := x87.2 _ _ f_o56
            have hE := hE.trans x87
            rcases ite_some hg with ⟨h88, hg⟩ | ⟨h88, hg⟩
            ·simp only [EVA, reduceIte, reduceCtorEq, Nat.reduceLT, Nat.reduceLeDiff, Int.reduceEq, Int.reduceLT, Int.reduceLE, Nat.reduceMul, eq_false h3, eq_false h6, eq_false h9, eq_false h12, eq_true h15, eq_true h16, eq_false h17, h28, h38, eq_true h79, eq_true h80.1, eq_true h80.2, q81, eq_true h82.1, eq_true h82.2, q83, h88, f_o1, f_o56, (show IntKind.i64.wrap 1 = 1 from rfl)]
             refine AWP.draw noY_sound [[], [0], [], [], [2, 3], [2, 3, 4], [2, 3, 4, 5], [2, 3, 4, 5, 6], [0, 1, 2, 3, 4, 5, 6, 7], [0, 1, 2, 3, 4, 5, 6, 7, 8], [0, 1, 2, 3, 4, 5, 6, 7, 8, 9]] [⟨0, false, []⟩, ⟨1, false, []⟩, ⟨2, false, []⟩, ⟨3, false, []⟩, ⟨4, false, []⟩, ⟨5, false, []⟩, ⟨6, false, []⟩, ⟨7, false, []⟩, ⟨8, true, []⟩, ⟨9, false, []⟩, ⟨10, true, []⟩] [0, 1, 2, 3, 4, 5, 6, 7, 8, 9, 10] [0, 1, 2, 3, 4, 5, 6, 7, 8, 9, 10] (by kernel_rfl) ?_
             obtain ⟨h89, hg⟩ := guard_some hg
             have q90 : List.getD (List.map encS2 a3) (Int.toNat x60) AV.undef = encS2 (rd a3 x60) := rd_map (l := a3) (i := x60) encS2 h89
             simp only [EVA, reduceIte, reduceCtorEq, Nat.reduceLT, Nat.reduceLeDiff, Int.reduceEq, Int.reduceLT, Int.reduceLE, Nat.reduceMul, eq_false h3, eq_false h6, eq_false h9, eq_false h12, eq_true h15, eq_true h16, eq_false h17, h28, h38, eq_true h79, eq_true h80.1, eq_true h80.2, q81, eq_true h82.1, eq_true h82.2, q83, h88, eq_true h89.1, eq_true h89.2, q90, f_o1, f_o56, (show IntKind.i64.wrap 1 = 1 from rfl)]
             obtain ⟨h96, hg⟩ := guard_some hg
             refine AppE.goM (H0 := H) (AV.int .u64) x61 ([(rd a3 x60).c5] : List Int) (n := 17592186044416) ty27 rfl ty53 rfl rfl (by decide) (.dl 1 [.int .u64 ((rd a3 x60).c5)] .full) (wkD.refl _) (srcA_dl ty27 rfl) (.inl rfl) h96 (by decide) (by decide) hE F69 ?_
             intro tl91 H92 hE F93 p94 q95 l9
             have f_o1 := p94 _ _ (cnt _) f_o1
             have f_o56 := p94 _ _ (cnt _) f_o56
             obtain ⟨F67, D97⟩ := q95 _ F67 D72.symm
             obtain ⟨F68, D98⟩ := q95 _ F68 D74.symm
             obtain ⟨F70, D99⟩ := q95 _ F70 D76
             simp only [EVA, reduceIte, reduceCtorEq, Nat.reduceLT, Nat.reduceLeDiff, Int.reduceEq, Int.reduceLT, Int.reduceLE, Nat.reduceMul, eq_false h3, eq_false h6, eq_false h9, eq_false h12, eq_true h15, eq_true h16, eq_false h17, h28, h38, eq_true h79, eq_true h80.1, eq_true h80.2, q81, eq_true h82.1, eq_true h82.2, q83, h88, eq_true h89.1, eq_true h89.2, q90, f_o1, f_o56, (show IntKind.i64.wrap 1 = 1 from rfl)]
             refine eop_store_go (H0 := H) (id := o56) (off := 5) (v := .dl 1 (List.map (AV.int .u64) (x61 ++ ([(rd a3 x60).c5] : List Int))) tl91) rfl rfl f_o56 ty27 rfl rfl (Nat.le_of_ble_eq_true rfl) hE g_o56 ?_
             intro H100 hE f9_o56 p101 l9
             have F67 := F67.keep f_o56 p101
             have F68 := F68.keep f_o56 p101
             have F70 := F70.keep f_o56 p101
             have F93 := F93.keep f_o56 p101
             have f_o1 := p101 _ _ ne_o1_o56 f_o1
             have f_o56 : H100[o56]? = some (.cells ([.int .i64 a0, .int .i64 a1, .dl 1 (List.map (AV.int .i64) v39) tl41, .dl 1 (List.map (AV.int .i64) v47) tl49, .dl 0 [] .full, .dl 1 (List.map (AV.int .u64) (x61 ++ ([(rd a3 x60).c5] : List Int))) tl91, .dl 1 (List.map (AV.int .u64) x63) tl64])) := f9_o56
             simp only [EVA, reduceIte, reduceCtorEq, Nat.reduceLT, Nat.reduceLeDiff, Int.reduceEq, Int.reduceLT, Int.reduceLE, Nat.reduceMul, eq_false h3, eq_false h6, eq_false h9, eq_false h12, eq_true h15, eq_true h16, eq_false h17, h28, h38, eq_true h79, eq_true h80.1, eq_true h80.2, q81, eq_true h82.1, eq_true h82.2, q83, h88, eq_true h89.1, eq_true h89.2, q90, f_o1, f_o56, (show IntKind.i64.wrap 1 = 1 from rfl)]
             refine AWP.draw noY_sound [[], [0], [], [], [2, 3], [2, 3, 4], [2, 3, 4, 5], [2, 3, 4, 5, 6], [0, 1, 2, 3, 4, 5, 6, 7], [0, 1, 2, 3, 4, 5, 6, 7, 8], [0, 1, 2, 3, 4, 5, 6, 7, 8, 9]] [⟨0, false, []⟩, ⟨1, false, []⟩, ⟨2, false, []⟩, ⟨3, false, []⟩, ⟨4, false, []⟩, ⟨5, false, []⟩, ⟨6, true, [1]⟩, ⟨7, false, []⟩, ⟨8, true, []⟩, ⟨9, false, []⟩, ⟨10, true, []⟩] [0, 1, 2, 3, 4, 5, 6, 7, 8, 9, 10] [0, 1, 2, 3, 4, 5, 6, 7, 8, 9, 10] (by kernel_rfl) ?_
             obtain ⟨h102, hg⟩ := guard_some hg
             have q103 : List.getD (List.map encL3 a5) (Int.toNat x60) AV.undef = encL3 (rd a5 x60) := rd_map (l := a5) (i := x60) encL3 h102
             simp only [EVA, reduceIte, reduceCtorEq, Nat.reduceLT, Nat.reduceLeDiff, Int.reduceEq, Int.reduceLT, Int.reduceLE, Nat.reduceMul, eq_false h3, eq_false h6, eq_false h9, eq_false h12, eq_true h15, eq_true h16, eq_false h17, h28, h38, eq_true h79, eq_true h80.1, eq_true h80.2, q81, eq_true h82.1, eq_true h82.2, q83, h88, eq_true h89.1, eq_true h89.2, q90, eq_true h102.1, eq_true h102.2, q103, f_o1, f_o56, (show IntKind.i64.wrap 1 = 1 from rfl)]
             obtain ⟨v104, ch105, hg⟩ := bind_some hg
             refine ACall.wkA (args := [.dl 7 (List.map encS1 (rd a5 x60)) .none]) (c39 B w0 n (rd a5 x60) .none _ _ v104 ch105  ?_) (WkA.r WkA.nil)
             intro H106 x107
             have F67 := F67.mono x107
             have F68 := F68.mono x107
             have F70 := F70.mono x107
             have F93 := F93.mono x107
             have f_o1 := x107.2 _ _ f_o1
             have f_o56 := x107.2 _ _ f_o56
             have hE := hE.trans x107
             simp only [EVA, reduceIte, reduceCtorEq, Nat.reduceLT, Nat.reduceLeDiff, Int.reduceEq, Int.reduceLT, Int.reduceLE, Nat.reduceMul, eq_false h3, eq_false h6, eq_false h9, eq_false h12, eq_true h15, eq_true h16, eq_false h17, h28, h38, eq_true h79, eq_true h80.1, eq_true h80.2, q81, eq_true h82.1, eq_true h82.2, q83, h88, eq_true h89.1, eq_true h89.2, q90, eq_true h102.1, eq_true h102.2, q103, f_o1, f_o56, (show IntKind.i64.wrap 1 = 1 from rfl)]
             obtain ⟨h113, hg⟩ := guard_some hg
             refine AppE.goM (H0 := H) (AV.int .u64) x63 ([v104] : List Int) (n := 17592186044416) ty27 rfl ty53 rfl rfl (by decide) (.dl 1 [.int .u64 v104] .full) (wkD.refl _) (srcA_dl ty27 rfl) (.inl rfl) h113 (by decide) (by decide) hE F70 ?_
             intro tl108 H109 hE F110 p111 q112 l9
             have f_o1 := p111 _ _ (cnt _) f_o1
             have f_o56 := p111 _ _ (cnt _) f_o56
             obtain ⟨F67, D114⟩ := q112 _ F67 D73.symm
             obtain ⟨F68, D115⟩ := q112 _ F68 D75.symm
             obtain ⟨F93, D116⟩ := q112 _ F93 D99.symm
             simp only [EVA, reduceIte, reduceCtorEq, Nat.reduceLT, Nat.reduceLeDiff, Int.reduceEq, Int.reduceLT, Int.reduceLE, Nat.reduceMul, eq_false h3, eq_false h6, eq_false h9, eq_false h12, eq_true h15, eq_true h16, eq_false h17, h28, h38, eq_true h79, eq_true h80.1, eq_true h80.2, q81, eq_true h82.1, eq_true h82.2, q83, h88, eq_true h89.1, eq_true h89.2, q90, eq_true h102.1, eq_true h102.2, q103, f_o1, f_o56, (show IntKind.i64.wrap 1 = 1 from rfl)]
             refine eop_store_go (H0 := H) (id := o56) (off := 6) (v := .dl 1 (List.map (AV.int .u64) (x63 ++ ([v104] : List Int))) tl108) rfl rfl f_o56 ty27 rfl rfl (Nat.le_of_ble_eq_true rfl) hE g_o56 ?_
             intro H117 hE f9_o56 p118 l9
             have F67 := F67.keep f_o56 p118
             have F68 := F68.keep f_o56 p118
             have F93 := F93.keep f_o56 p118
             have F110 := F110.keep f_o56 p118
             have f_o1 := p118 _ _ ne_o1_o56 f_o1
             have f_o56 : H117[o56]? = some (.cells ([.int .i64 a0, .int .i64 a1, .dl 1 (List.map (AV.int .i64) v39) tl41, .dl 1 (List.map (AV.int .i64) v47) tl49, .dl 0 [] .full, .dl 1 (List.map (AV.int .u64) (x61 ++ ([(rd a3 x60).c5] : List Int))) tl91, .dl 1 (List.map (AV.int .u64) (x63 ++ ([v104] : List Int))) tl108])) := f9_o56
             simp only [EVA, reduceIte, reduceCtorEq, Nat.reduceLT, Nat.reduceLeDiff, Int.reduceEq, Int.reduceLT, Int.reduceLE, Nat.reduceMul, eq_false h3, eq_false h6, eq_false h9, eq_false h12, eq_true h15, eq_true h16, eq_false h17, h28, h38, eq_true h79, eq_true h80.1, eq_true h80.2, q81, eq_true h82.1, eq_true h82.2, q83, h88, eq_true h89.1, eq_true h89.2, q90, eq_true h102.1, eq_true h102.2, q103, f_o1, f_o56, (show IntKind.i64.wrap 1 = 1 from rfl)]
             exact ⟨⟨k65, IntKind.i64.wrap (x60 + 1), x61 ++ ([(rd a3 x60).c5] : List Int), x63 ++ ([v104] : List Int), tl91, tl108⟩, (by repeat' first | exact Wk.nil | apply Wk.u | apply Wk.r), ⟨hg, hE, f_o1, ⟨_, f_o56, (by repeat' first | exact Wk.nil | apply Wk.u | apply Wk.r)⟩, F67, F68, F93, F110, D71, D97.symm, D114.symm, D98.symm, D115.symm, D116.symm⟩, Nat.lt_succ_self _⟩
            ·have h88 := Bool.eq_false_iff.2 h88
             simp only [EVA, reduceIte, reduceCtorEq, Nat.reduceLT, Nat.reduceLeDiff, Int.reduceEq, Int.reduceLT, Int.reduceLE, Nat.reduceMul, eq_false h3, eq_false h6, eq_false h9, eq_false h12, eq_true h15, eq_true h16, eq_false h17, h28, h38, eq_true h79, eq_true h80.1, eq_true h80.2, q81, eq_true h82.1, eq_true h82.2, q83, h88, f_o1, f_o56, (show IntKind.i64.wrap 1 = 1 from rfl)]
             refine eop_store_go (H0 := H) (id := o1) (off := 0) (v := .agg [.int .i64 0, .int .i64 0, .dl 0 [] .full, .dl 0 [] .full, .dl 0 [] .full, .dl 0 [] .full, .dl 0 [] .full]) rfl rfl f_o1 ty41 rfl rfl (Nat.le_of_ble_eq_true rfl) hE g_o1 ?_
             intro H119 hE f9_o1 p120 l9
             have F67 := F67.keep f_o1 p120
             have F68 := F68.keep f_o1 p120
             have F69 := F69.keep f_o1 p120
             have F70 := F70.keep f_o1 p120
             have f_o56 := p120 _ _ (Ne.symm ne_o1_o56) f_o56
             have f_o1 : H119[o1]? = some (.cells ([.int .i64 0, .int .i64 0, .dl 0 [] .full, .dl 0 [] .full, .dl 0 [] .full, .dl 0 [] .full, .dl 0 [] .full])) := f9_o1
             simp only [EVA, reduceIte, reduceCtorEq, Nat.reduceLT, Nat.reduceLeDiff, Int.reduceEq, Int.reduceLT, Int.reduceLE, Nat.reduceMul, rs14, eq_false h3, eq_false h6, eq_false h9, eq_false h12, eq_true h15, eq_true h16, eq_false h17, h28, h38, eq_true h79, eq_true h80.1, eq_true h80.2, q81, eq_true h82.1, eq_true h82.2, q83, h88, f_o1, f_o56, (show IntKind.i64.wrap 1 = 1 from rfl)]
             obtain rfl := Option.some.inj hg
             exact ⟨_, (wkR.tup (WkA.cons (wkA.agg (by repeat' first | exact Wk.nil | apply Wk.u | apply Wk.r | apply Wk.cons (wkV.nil _ _ _))) (WkA.r WkA.nil))), (hK  _ hE )⟩
           ·refine Br.no h79 ?_
            simp only [EVA, reduceIte, reduceCtorEq, Nat.reduceLT, Nat.reduceLeDiff, Int.reduceEq, Int.reduceLT, Int.reduceLE, Nat.reduceMul, eq_false h3, eq_false h6, eq_false h9, eq_false h12, eq_true h15, eq_true h16, eq_false h17, h28, h38, eq_false h79, f_o1, f_o56, (show IntKind.i64.wrap 1 = 1 from rfl)]
            obtain ⟨v121, ch122, hg⟩ := bind_some hg
            refine ACall.wkA (args := [.dl 1 (List.map encL3 a5) ta5, .dl 1 (List.map (AV.int .u64) a4) ta4]) (c40 B w0 n a5 a4 ta5 ta4 _ _ v121 ch122  ?_) (WkA.r (WkA.r WkA.nil))
            intro H123 x124
            have F67 := F67.mono x124
            have F68 := F68.mono x124
            have F69 := F69.mono x124
            have F70 := F70.mono x124
            have f_o1 := x124.2 _ _ f_o1
            have f_o56 := x124.2 _ _ f_o56
            have hE := hE.trans x124
            rcases ite_some hg with ⟨h125, hg⟩ | ⟨h125, hg⟩
            ·simp only [EVA, reduceIte, reduceCtorEq, Nat.reduceLT, Nat.reduceLeDiff, Int.reduceEq, Int.reduceLT, Int.reduceLE, Nat.reduceMul, eq_false h3, eq_false h6, eq_false h9, eq_false h12, eq_true h15, eq_true h16, eq_false h17, h28, h38, eq_false h79, h125, f_o1, f_o56, (show IntKind.i64.wrap 1 = 1 from rfl)]
             refine eop_store_go (H0 := H) (id := o1) (off := 0) (v := .agg [.int .i64 0, .int .i64 0, .dl 0 [] .full, .dl 0 [] .full, .dl 0 [] .full, .dl 0 [] .full, .dl 0 [] .full]) rfl rfl f_o1 ty41 rfl rfl (Nat.le_of_ble_eq_true rfl) hE g_o1 ?_
             intro H126 hE f9_o1 p127 l9
             have F67 := F67.keep f_o1 p127
             have F68 := F68.keep f_o1 p127
             have F69 := F69.keep f_o1 p127
             have F70 := F70.keep f_o1 p127
             have f_o56 := p127 _ _ (Ne.symm ne_o1_o56) f_o56
             have f_o1 : H126[o1]? = some (.cells ([.int .i64 0, .int .i64 0, .dl 0 [] .full, .dl 0 [] .full, .dl 0 [] .full, .dl 0 [] .full, .dl 0 [] .full])) := f9_o1
             simp only [EVA, reduceIte, reduceCtorEq, Nat.reduceLT, Nat.reduceLeDiff, Int.reduceEq, Int.reduceLT, Int.reduceLE, Nat.reduceMul, rs14, eq_false h3, eq_false h6, eq_false h9, eq_false h12, eq_true h15, eq_true h16, eq_false h17, h28, h38, eq_false h79, h125, f_o1, f_o56, (show IntKind.i64.wrap 1 = 1 from rfl)]
             obtain rfl := Option.some.inj hg
             exact ⟨_, (wkR.tup (WkA.cons (wkA.agg (by repeat' first | exact Wk.nil | apply Wk.u | apply Wk.r | apply Wk.cons (wkV.nil _ _ _))) (WkA.r WkA.nil))), (hK  _ hE )⟩
            ·have h125 := Bool.eq_false_iff.2 h125
             simp only [EVA, reduceIte, reduceCtorEq, Nat.reduceLT, Nat.reduceLeDiff, Int.reduceEq, Int.reduceLT, Int.reduceLE, Nat.reduceMul, eq_false h3, eq_false h6, eq_false h9, eq_false h12, eq_true h15, eq_true h16, eq_false h17, h28, h38, eq_false h79, h125, f_o1, f_o56, (show IntKind.i64.wrap 1 = 1 from rfl)]
             refine AWP.loop (σ := Nat × Int × List Int × Tail) (fun s => [.undef, .undef, .undef, .undef, .dl 1 (List.map (AV.int .u64) a4) ta4, .undef, .undef, .undef, .undef, .undef, .undef, .undef, .ptr o1 0, .undef, .undef, .ptr o56 0, .undef, .int .i64 s.2.1, .undef, .undef, .undef, .undef, .undef, .undef, .undef, .undef, .undef, .undef, .undef, .undef, .undef, .undef, .undef, .undef, .undef, .undef, .undef, .undef, .undef, .undef, .undef, .undef, .undef, .undef, .undef, .undef, .undef, .undef, .undef, .undef, .undef, .undef, .undef, .undef, .undef, .undef, .undef, .undef, .undef, .undef, .undef, .undef, .undef, .undef, .undef, .undef, .undef, .undef, .undef, .undef, .undef, .undef, .undef, .undef, .undef, .undef, .undef, .undef, .undef, .undef, .undef, .undef, .undef, .undef, .undef, .undef, .undef, .undef, .undef, .undef, .undef, .undef, .undef, .undef, .undef, .undef, .undef, .undef, .undef, .undef, .undef, .undef, .undef, .undef, .undef, .undef, .undef, .undef, .undef, .undef, .undef, .undef, .undef, .undef, .undef, .undef, .undef, .undef, .undef, .undef, .undef, .undef, .undef, .undef, .undef, .undef]) (fun s H' => l14_1 n a0 a1 a4 v39 v47 x61 x63 s.1 s.2.1 s.2.2.1 = some r ∧ Ext H H' ∧ ObjAt H' o1 ([.int .i64 0, .int .i64 0, .dl 0 [] .full, .dl 0 [] .full, .dl 0 [] .full, .dl 0 [] .full, .dl 0 [] .full]) ∧ ObjW H' o56 ([.int .i64 a0, .int .i64 a1, .dl 1 (List.map (AV.int .i64) v39) tl41, .dl 1 (List.map (AV.int .i64) v47) tl49, .dl 1 (List.map (AV.int .u64) s.2.2.1) s.2.2.2, .dl 1 (List.map (AV.int .u64) x61) tl62, .dl 1 (List.map (AV.int .u64) x63) tl64]) ∧ Free H H' tl41 ∧ Free H H' tl49 ∧ Free H H' tl62 ∧ Free H H' tl64 ∧ Free H H' s.2.2.2 ∧ tlNe tl41 tl49 ∧ tlNe tl41 tl62 ∧ tlNe tl41 tl64 ∧ tlNe tl41 s.2.2.2 ∧ tlNe tl49 tl62 ∧ tlNe tl49 tl64 ∧ tlNe tl49 s.2.2.2 ∧ tlNe tl62 tl64 ∧ tlNe tl62 s.2.2.2 ∧ tlNe tl64 s.2.2.2) (fun s => s.1) ⟨⟨n, 0, ([] : List Int), .full⟩, (by repeat' first | exact Wk.nil | apply Wk.u | apply Wk.r), ⟨hg, hE, f_o1, ⟨_, f_o56, (by repeat' first | exact Wk.nil | apply Wk.u | apply Wk.r | apply Wk.cons (wkV.nilf _ _))⟩, F67, F68, F69, F70, (Free.full _ _), D71, D72, D73, (tlNe.full' _), D74, D75, (tlNe.full' _), D76, (tlNe.full' _), (tlNe.full' _)⟩⟩ ?_
             rintro ⟨k131, x128, x129, tl130⟩ H132 ⟨hg, hE, f9_o1, f_o56, F133, F134, F135, F136, F137, D138, D139, D140, D141, D142, D143, D144, D145, D146, D147⟩ _
             have f_o1 : H132[o1]? = some (.cells ([.int .i64 0, .int .i64 0, .dl 0 [] .full, .dl 0 [] .full, .dl 0 [] .full, .dl 0 [] .full, .dl 0 [] .full])) := f9_o1
             clear f9_o1
             try dsimp only at hg f_o56 F133 F134 F135 F136 F137 D138 D139 D140 D141 D142 D143 D144 D145 D146 D147
             cases k131 with
             | zero => simp only [l14_1, reduceCtorEq] at hg
             | succ k131 =>
              rw [l14_1] at hg
              obtain ⟨cs_o56, f_o56, w_o56⟩ := f_o56
              refine AWP.wkGo (H0 := H) f_o56 w_o56 hE g_o56 ?_
              intro H148 hE f9_o56 p149 l9
              have F133 := F133.keep f_o56 p149
              have F134 := F134.keep f_o56 p149
              have F135 := F135.keep f_o56 p149
              have F136 := F136.keep f_o56 p149
              have F137 := F137.keep f_o56 p149
              have f_o1 := p149 _ _ ne_o1_o56 f_o1
              have f_o56 : H148[o56]? = some (.cells ([.int .i64 a0, .int .i64 a1, .dl 1 (List.map (AV.int .i64) v39) tl41, .dl 1 (List.map (AV.int .i64) v47) tl49, .dl 1 (List.map (AV.int .u64) x129) tl130, .dl 1 (List.map (AV.int .u64) x61) tl62, .dl 1 (List.map (AV.int .u64) x63) tl64])) := f9_o56
              refine eawp_sound noY_sound _ _ _ _ ?_
              simp only [EVA, reduceIte, reduceCtorEq, Nat.reduceLT, Nat.reduceLeDiff, Int.reduceEq, Int.reduceLT, Int.reduceLE, Nat.reduceMul, eq_false h3, eq_false h6, eq_false h9, eq_false h12, eq_true h15, eq_true h16, eq_false h17, h28, h38, eq_false h79, h125, f_o1, f_o56, (show IntKind.i64.wrap 1 = 1 from rfl)]
              rcases ite_some hg with ⟨h150, hg⟩ | ⟨h150, hg⟩
              ·refine Br.yes h150 ?_
               simp only [EVA, reduceIte, reduceCtorEq, Nat.reduceLT, Nat.reduceLeDiff, Int.reduceEq, Int.reduceLT, Int.reduceLE, Nat.reduceMul, eq_false h3, eq_false h6, eq_false h9, eq_false h12, eq_true h15, eq_true h16, eq_false h17, h28, h38, eq_false h79, h125, eq_true h150, f_o1, f_o56, (show IntKind.i64.wrap 1 = 1 from rfl)]
               refine AWP.draw noY_sound [[], [0], [], [], [2, 3], [2, 3, 4], [0, 1, 2, 3, 4, 5], [0, 1, 2, 3, 4, 5, 6], [0, 1, 2, 3, 4, 5, 6, 7]] [⟨0, false, []⟩, ⟨1, false, []⟩, ⟨2, false, []⟩, ⟨3, false, []⟩, ⟨4, false, []⟩, ⟨5, false, []⟩, ⟨6, true, []⟩, ⟨7, false, []⟩, ⟨8, true, []⟩] [0, 1, 2, 3, 4, 5, 6, 7, 8] [0, 1, 2, 3, 4, 5, 6, 7, 8] (by kernel_rfl) ?_
               obtain ⟨h151, hg⟩ := guard_some hg
               have q152 : List.getD (List.map (AV.int .u64) a4) (Int.toNat x128) AV.undef = (AV.int .u64) (rd a4 x128) := rd_map (l := a4) (i := x128) (AV.int .u64) h151
               simp only [EVA, reduceIte, reduceCtorEq, Nat.reduceLT, Nat.reduceLeDiff, Int.reduceEq, Int.reduceLT, Int.reduceLE, Nat.reduceMul, eq_false h3, eq_false h6, eq_false h9, eq_false h12, eq_true h15, eq_true h16, eq_false h17, h28, h38, eq_false h79, h125, eq_true h150, eq_true h151.1, eq_true h151.2, q152, f_o1, f_o56, (show IntKind.i64.wrap 1 = 1 from rfl)]
               obtain ⟨v153, ch154, hg⟩ := bind_some hg
               refine ACall.wkA (args := [.dl 1 (List.map (AV.int .u64) x129) tl130, .int .u64 (rd a4 x128)]) (c41 B w0 n x129 (rd a4 x128) tl130 _ _ v153 ch154  ?_) (WkA.r (WkA.r WkA.nil))
               intro tl155 H156 x157 F158
               have D159 := Free.ne F133 F158
               have D160 := Free.ne F134 F158
               have D161 := Free.ne F135 F158
               have D162 := Free.ne F136 F158
               have D163 := Free.ne F137 F158
               have F133 := F133.mono x157
               have F134 := F134.mono x157
               have F135 := F135.mono x157
               have F136 := F136.mono x157
               have F137 := F137.mono x157
               have F158 := F158.low hE
               have f_o1 := x157.2 _ _ f_o1
               have f_o56 := x157.2 _ _ f_o56
               have hE := hE.trans x157
               simp only [EVA, reduceIte, reduceCtorEq, Nat.reduceLT, Nat.reduceLeDiff, Int.reduceEq, Int.reduceLT, Int.reduceLE, Nat.reduceMul, eq_false h3, eq_false h6, eq_false h9, eq_false h12, eq_true h15, eq_true h16, eq_false h17, h28, h38, eq_false h79, h125, eq_true h150, eq_true h151.1, eq_true h151.2, q152, f_o1, f_o56, (show IntKind.i64.wrap 1 = 1 from rfl)]
               refine eop_store_go (H0 := H) (id := o56) (off := 4) (v := .dl 1 (List.map (AV.int .u64) v153) tl155) rfl rfl f_o56 ty27 rfl rfl (Nat.le_of_ble_eq_true rfl) hE g_o56 ?_
               intro H164 hE f9_o56 p165 l9
               have F133 := F133.keep f_o56 p165
               have F134 := F134.keep f_o56 p165
               have F135 := F135.keep f_o56 p165
               have F136 := F136.keep f_o56 p165
               have F137 := F137.keep f_o56 p165
               have F158 := F158.keep f_o56 p165
               have f_o1 := p165 _ _ ne_o1_o56 f_o1
               have f_o56 : H164[o56]? = some (.cells ([.int .i64 a0, .int .i64 a1, .dl 1 (List.map (AV.int .i64) v39) tl41, .dl 1 (List.map (AV.int .i64) v47) tl49, .dl 1 (List.map (AV.int .u64) v153) tl155, .dl 1 (List.map (AV.int .u64) x61) tl62, .dl 1 (List.map (AV.int .u64) x63) tl64])) := f9_o56
               simp only [EVA, reduceIte, reduceCtorEq, Nat.reduceLT, Nat.reduceLeDiff, Int.reduceEq, Int.reduceLT, Int.reduceLE, Nat.reduceMul, eq_false h3, eq_false h6, eq_false h9, eq_false h12, eq_true h15, eq_true h16, eq_false h17, h28, h38, eq_false h79, h125, eq_true h150, eq_true h151.1, eq_true h151.2, q152, f_o1, f_o56, (show IntKind.i64.wrap 1 = 1 from rfl)]
               exact ⟨⟨k131, IntKind.i64.wrap (x128 + 1), v153, tl155⟩, (by repeat' first | exact Wk.nil | apply Wk.u | apply Wk.r), ⟨hg, hE, f_o1, ⟨_, f_o56, (by repeat' first | exact Wk.nil | apply Wk.u | apply Wk.r)⟩, F133, F134, F135, F136, F158, D138, D139, D140, D159.symm, D142, D143, D160.symm, D145, D161.symm, D162.symm⟩, Nat.lt_succ_self _⟩
              ·refine Br.no h150 ?_
               simp only [EVA, reduceIte, reduceCtorEq, Nat.reduceLT, Nat.reduceLeDiff, Int.reduceEq, Int.reduceLT, Int.reduceLE, Nat.reduceMul, eq_false h3, eq_false h6, eq_false h9, eq_false h12, eq_true h15, eq_true h16, eq_false h17, h28, h38, eq_false h79, h125, eq_false h150, f_o1, f_o56, (show IntKind.i64.wrap 1 = 1 from rfl)]
               refine eop_store_go (H0 := H) (id := o1) (off := 0) (v := .agg [.int .i64 a0, .int .i64 a1, .dl 1 (List.map (AV.int .i64) v39) tl41, .dl 1 (List.map (AV.int .i64) v47) tl49, .dl 1 (List.map (AV.int .u64) x129) tl130, .dl 1 (List.map (AV.int .u64) x61) tl62, .dl 1 (List.map (AV.int .u64) x63) tl64]) rfl rfl f_o1 ty41 rfl rfl (Nat.le_of_ble_eq_true rfl) hE g_o1 ?_
               intro H166 hE f9_o1 p167 l9
               have F133 := F133.keep f_o1 p167
               have F134 := F134.keep f_o1 p167
               have F135 := F135.keep f_o1 p167
               have F136 := F136.keep f_o1 p167
               have F137 := F137.keep f_o1 p167
               have f_o56 := p167 _ _ (Ne.symm ne_o1_o56) f_o56
               have f_o1 : H166[o1]? = some (.cells ([.int .i64 a0, .int .i64 a1, .dl 1 (List.map (AV.int .i64) v39) tl41, .dl 1 (List.map (AV.int .i64) v47) tl49, .dl 1 (List.map (AV.int .u64) x129) tl130, .dl 1 (List.map (AV.int .u64) x61) tl62, .dl 1 (List.map (AV.int .u64) x63) tl64])) := f9_o1
               simp only [EVA, reduceIte, reduceCtorEq, Nat.reduceLT, Nat.reduceLeDiff, Int.reduceEq, Int.reduceLT, Int.reduceLE, Nat.reduceMul, rs14, eq_false h3, eq_false h6, eq_false h9, eq_false h12, eq_true h15, eq_true h16, eq_false h17, h28, h38, eq_false h79, h125, eq_false h150, f_o1, f_o56, (show IntKind.i64.wrap 1 = 1 from rfl)]
               obtain rfl := Option.some.inj hg
               exact ⟨_, (wkR.tup (WkA.cons (wkA.agg (by repeat' first | exact Wk.nil | apply Wk.u | apply Wk.r | apply Wk.cons (wkV.tail _ _ _))) (WkA.r WkA.nil))), (hK  _ hE )⟩
         ·have h38 := Bool.eq_false_iff.2 h38
          simp only [EVA, reduceIte, reduceCtorEq, Nat.reduceLT, Nat.reduceLeDiff, Int.reduceEq, Int.reduceLT, Int.reduceLE, Nat.reduceMul, eq_false h3, eq_false h6, eq_false h9, eq_false h12, eq_true h15, eq_true h16, eq_false h17, h28, h38, f_o1, (show IntKind.i64.wrap 1 = 1 from rfl)]
          refine eop_store_go (H0 := H) (id := o1) (off := 0) (v := .agg [.int .i64 0, .int .i64 0, .dl 0 [] .full, .dl 0 [] .full, .dl 0 [] .full, .dl 0 [] .full, .dl 0 [] .full]) rfl rfl f_o1 ty41 rfl rfl (Nat.le_of_ble_eq_true rfl) hE g_o1 ?_
          intro H168 hE f9_o1 p169 l9
          have F25 := F25.keep f_o1 p169
          have F34 := F34.keep f_o1 p169
          have f_o1 : H168[o1]? = some (.cells ([.int .i64 0, .int .i64 0, .dl 0 [] .full, .dl 0 [] .full, .dl 0 [] .full, .dl 0 [] .full, .dl 0 [] .full])) := f9_o1
          simp only [EVA, reduceIte, reduceCtorEq, Nat.reduceLT, Nat.reduceLeDiff, Int.reduceEq, Int.reduceLT, Int.reduceLE, Nat.reduceMul, rs14, eq_false h3, eq_false h6, eq_false h9, eq_false h12, eq_true h15, eq_true h16, eq_false h17, h28, h38, f_o1, (show IntKind.i64.wrap 1 = 1 from rfl)]
          obtain rfl := Option.some.inj hg
          exact ⟨_, (wkR.tup (WkA.cons (wkA.agg (by repeat' first | exact Wk.nil | apply Wk.u | apply Wk.r | apply Wk.cons (wkV.nil _ _ _))) (WkA.r WkA.nil))), (hK  _ hE )⟩
        ·have h28 := Bool.eq_false_iff.2 h28
         simp only [EVA, reduceIte, reduceCtorEq, Nat.reduceLT, Nat.reduceLeDiff, Int.reduceEq, Int.reduceLT, Int.reduceLE, Nat.reduceMul, eq_false h3, eq_false h6, eq_false h9, eq_false h12, eq_true h15, eq_true h16, eq_false h17, h28, f_o1, (show IntKind.i64.wrap 1 = 1 from rfl)]
         refine eop_store_go (H0 := H) (id := o1) (off := 0) (v := .agg [.int .i64 0, .int .i64 0, .dl 0 [] .full, .dl 0 [] .full, .dl 0 [] .full, .dl 0 [] .full, .dl 0 [] .full]) rfl rfl f_o1 ty41 rfl rfl (Nat.le_of_ble_eq_true rfl) hE g_o1 ?_
         intro H170 hE f9_o1 p171 l9
         have F25 := F25.keep f_o1 p171
         have f_o1 : H170[o1]? = some (.cells ([.int .i64 0, .int .i64 0, .dl 0 [] .full, .dl 0 [] .full, .dl 0 [] .full, .dl 0 [] .full, .dl 0 [] .full])) := f9_o1
         simp only [EVA, reduceIte, reduceCtorEq, Nat.reduceLT, Nat.reduceLeDiff, Int.reduceEq, Int.reduceLT, Int.reduceLE, Nat.reduceMul, rs14, eq_false h3, eq_false h6, eq_false h9, eq_false h12, eq_true h15, eq_true h16, eq_false h17, h28, f_o1, (show IntKind.i64.wrap 1 = 1 from rfl)]
         obtain rfl := Option.some.inj hg
         exact ⟨_, (wkR.tup (WkA.cons (wkA.agg (by repeat' first | exact Wk.nil | apply Wk.u | apply Wk.r | apply Wk.cons (wkV.nil _ _ _))) (WkA.r WkA.nil))), (hK  _ hE )⟩
      ·refine Br.no h16 ?_
       simp only [EVA, reduceIte, reduceCtorEq, Nat.reduceLT, Nat.reduceLeDiff, Int.reduceEq, Int.reduceLT, Int.reduceLE, Nat.reduceMul, eq_false h3, eq_false h6, eq_false h9, eq_false h12, eq_true h15, eq_false h16, f_o1, (show IntKind.i64.wrap 1 = 1 from rfl)]
       refine eop_store_go (H0 := H) (id := o1) (off := 0) (v := .agg [.int .i64 0, .int .i64 0, .dl 0 [] .full, .dl 0 [] .full, .dl 0 [] .full, .dl 0 [] .full, .dl 0 [] .full]) rfl rfl f_o1 ty41 rfl rfl (Nat.le_of_ble_eq_true rfl) hE g_o1 ?_
       intro H172 hE f9_o1 p173 l9
       have f_o1 : H172[o1]? = some (.cells ([.int .i64 0, .int .i64 0, .dl 0 [] .full, .dl 0 [] .full, .dl 0 [] .full, .dl 0 [] .full, .dl 0 [] .full])) := f9_o1
       simp only [EVA, reduceIte, reduceCtorEq, Nat.reduceLT, Nat.reduceLeDiff, Int.reduceEq, Int.reduceLT, Int.reduceLE, Nat.reduceMul, rs14, eq_false h3, eq_false h6, eq_false h9, eq_false h12, eq_true h15, eq_false h16, f_o1, (show IntKind.i64.wrap 1 = 1 from rfl)]
       obtain rfl := Option.some.inj hg
       exact ⟨_, (wkR.tup (WkA.cons (wkA.agg (by repeat' first | exact Wk.nil | apply Wk.u | apply Wk.r | apply Wk.cons (wkV.nil _ _ _))) (WkA.r WkA.nil))), (hK  _ hE )⟩
     ·refine Br.no h15 ?_
      simp only [EVA, reduceIte, reduceCtorEq, Nat.reduceLT, Nat.reduceLeDiff, Int.reduceEq, Int.reduceLT, Int.reduceLE, Nat.reduceMul, eq_false h3, eq_false h6, eq_false h9, eq_false h12, eq_false h15, f_o1, (show IntKind.i64.wrap 1 = 1 from rfl)]
      refine eop_store_go (H0 := H) (id := o1) (off := 0) (v := .agg [.int .i64 0, .int .i64 0, .dl 0 [] .full, .dl 0 [] .full, .dl 0 [] .full, .dl 0 [] .full, .dl 0 [] .full]) rfl rfl f_o1 ty41 rfl rfl (Nat.le_of_ble_eq_true rfl) hE g_o1 ?_
      intro H174 hE f9_o1 p175 l9
      have f_o1 : H174[o1]? = some (.cells ([.int .i64 0, .int .i64 0, .dl 0 [] .full, .dl 0 [] .full, .dl 0 [] .full, .dl 0 [] .full, .dl 0 [] .full])) := f9_o1
      simp only [EVA, reduceIte, reduceCtorEq, Nat.reduceLT, Nat.reduceLeDiff, Int.reduceEq, Int.reduceLT, Int.reduceLE, Nat.reduceMul, rs14, eq_false h3, eq_false h6, eq_false h9, eq_false h12, eq_false h15, f_o1, (show IntKind.i64.wrap 1 = 1 from rfl)]
      obtain rfl := Option.some.inj hg
      exact ⟨_, (wkR.tup (WkA.cons (wkA.agg (by repeat' first | exact Wk.nil | apply Wk.u | apply Wk.r | apply Wk.cons (wkV.nil _ _ _))) (WkA.r WkA.nil))), (hK  _ hE )⟩
/-- skymosaic/skymosaicref38.SameWords -/
def l43_0 (n : Nat) (a0 : List Int) (a1 : List Int) : Nat → Int → Option (Bool)
 | 0, _ => none
 | k3 + 1, x2 => if x2 < (a0.length : Int) then (if (0 : Int) ≤ x2 ∧ x2 < (a0.length : Int) then (if (0 : Int) ≤ x2 ∧ x2 < (a1.length : Int) then (if (rd a0 x2) = (rd a1 x2) then ((l43_0 n a0 a1 k3) (IntKind.i64.wrap (x2 + 1))) else (some false)) else none) else none) else (some true)
theorem rs43 : Tryz.f43.results.toList = [.tmp 4] := rfl
def g43 (n : Nat) (a0 : List Int) (a1 : List Int) : Option (Bool) := if (a0.length : Int) = (a1.length : Int) then (l43_0 n a0 a1 n 0) else (some false)
theorem c43 (B : Nat) (w0 : World) (n : Nat) (a0 : List Int) (a1 : List Int) (ta0 : Tail) (ta1 : Tail) (H : AHeap) (K : AV → AHeap → Prop) (r : (Bool)) (hg : g43 n a0 a1 = some r)  (hK : K (.bool r) H) : ACall Tryz.prog B w0 43 [.dl 1 (List.map (AV.int .u64) a0) ta0, .dl 1 (List.map (AV.int .u64) a1) ta1] H K := by
 unfold g43 at hg
 refine ACall.enter Tryz.func43 (by kernel_rfl) rfl (eawp_sound noY_sound _ _ _ _ ?_)
 have hE : Ext H H := Ext.refl H
 simp only [EVA, reduceIte, reduceCtorEq, Tryz.ntmps43, rs43, (show IntKind.i64.wrap 1 = 1 from rfl)]
 rcases ite_some hg with ⟨h1, hg⟩ | ⟨h1, hg⟩
 ·refine Br.yes h1 ?_
  simp only [EVA, reduceIte, reduceCtorEq, eq_true h1, (show IntKind.i64.wrap 1 = 1 from rfl)]
  refine AWP.loop (σ := Nat × Int) (fun s => [.dl 1 (List.map (AV.int .u64) a0) ta0, .dl 1 (List.map (AV.int .u64) a1) ta1, .undef, .undef, .undef, .int .i64 s.2, .undef, .undef, .undef, .undef, .undef, .undef, .undef, .undef, .undef, .undef, .undef, .undef, .undef, .undef, .undef, .undef, .undef, .undef, .undef, .undef]) (fun s H' => l43_0 n a0 a1 s.1 s.2 = some r ∧ SameH H H') (fun s => s.1) ⟨⟨n, 0⟩, (by repeat' first | exact Wk.nil | apply Wk.u | apply Wk.r), ⟨hg, (rfl : SameH _ _)⟩⟩ ?_
  rintro ⟨k3, x2⟩ H4 ⟨hg, hH9⟩ _
  unfold SameH at hH9
  subst hH9
  try dsimp only at hg
  cases k3 with
  | zero => simp only [l43_0, reduceCtorEq] at hg
  | succ k3 =>
   rw [l43_0] at hg
   refine eawp_sound noY_sound _ _ _ _ ?_
   simp only [EVA, reduceIte, reduceCtorEq, eq_true h1, (show IntKind.i64.wrap 1 = 1 from rfl)]
   rcases ite_some hg with ⟨h5, hg⟩ | ⟨h5, hg⟩
   ·refine Br.yes h5 ?_
    simp only [EVA, reduceIte, reduceCtorEq, eq_true h1, eq_true h5, (show IntKind.i64.wrap 1 = 1 from rfl)]
    refine AWP.draw noY_sound [[], [], [0, 1], [0, 1, 2], [], [], [4, 5], [4, 5, 6], [0, 1, 2, 3, 4, 5, 6, 7]] [⟨0, false, []⟩, ⟨1, false, []⟩, ⟨2, false, []⟩, ⟨3, false, []⟩, ⟨4, false, []⟩, ⟨5, false, []⟩, ⟨6, false, []⟩, ⟨7, false, []⟩, ⟨8, false, []⟩] [0, 1, 2, 3, 4, 5, 6, 7, 8] [0, 1, 2, 3, 4, 5, 6, 7, 8] (by kernel_rfl) ?_
    obtain ⟨h6, hg⟩ := guard_some hg
    have q7 : List.getD (List.map (AV.int .u64) a0) (Int.toNat x2) AV.undef = (AV.int .u64) (rd a0 x2) := rd_map (l := a0) (i := x2) (AV.int .u64) h6
    obtain ⟨h8, hg⟩ := guard_some hg
    have q9 : List.getD (List.map (AV.int .u64) a1) (Int.toNat x2) AV.undef = (AV.int .u64) (rd a1 x2) := rd_map (l := a1) (i := x2) (AV.int .u64) h8
    simp only [EVA, reduceIte, reduceCtorEq, eq_true h1, eq_true h5, eq_true h6.1, eq_true h6.2, q7, eq_true h8.1, eq_true h8.2, q9, (show IntKind.i64.wrap 1 = 1 from rfl)]
    rcases ite_some hg with ⟨h10, hg⟩ | ⟨h10, hg⟩
    ·refine Br.yes h10 ?_
     simp only [EVA, reduceIte, reduceCtorEq, eq_true h1, eq_true h5, eq_true h6.1, eq_true h6.2, q7, eq_true h8.1, eq_true h8.2, q9, eq_true h10, (show IntKind.i64.wrap 1 = 1 from rfl)]
     exact ⟨⟨k3, IntKind.i64.wrap (x2 + 1)⟩, (by repeat' first | exact Wk.nil | apply Wk.u | apply Wk.r), ⟨hg, (rfl : SameH _ _)⟩, Nat.lt_succ_self _⟩
    ·refine Br.no h10 ?_
     simp only [EVA, reduceIte, reduceCtorEq, rs43, eq_true h1, eq_true h5, eq_true h6.1, eq_true h6.2, q7, eq_true h8.1, eq_true h8.2, q9, eq_false h10, (show IntKind.i64.wrap 1 = 1 from rfl)]
     obtain rfl := Option.some.inj hg
     exact hK
   ·refine Br.no h5 ?_
    simp only [EVA, reduceIte, reduceCtorEq, rs43, eq_true h1, eq_false h5, (show IntKind.i64.wrap 1 = 1 from rfl)]
    obtain rfl := Option.some.inj hg
    exact hK
 ·refine Br.no h1 ?_
  simp only [EVA, reduceIte, reduceCtorEq, rs43, eq_false h1, (show IntKind.i64.wrap 1 = 1 from rfl)]
  obtain rfl := Option.some.inj hg
  exact hK
/-- slices.Equal[[]uint64,uint64] -/
def l76_0 (n : Nat) (a0 : List Int) (a1 : List Int) : Nat → Int → Option (Bool)
 | 0, _ => none
 | k3 + 1, x2 => if x2 < (a0.length : Int) then (if (0 : Int) ≤ x2 ∧ x2 < (a0.length : Int) then (if (0 : Int) ≤ x2 ∧ x2 < (a1.length : Int) then (if (rd a0 x2) = (rd a1 x2) then ((l76_0 n a0 a1 k3) (IntKind.i64.wrap (x2 + 1))) else (some false)) else none) else none) else (some true)
theorem rs76 : Tryz.f76.results.toList = [.tmp 4] := rfl
def g76 (n : Nat) (a0 : List Int) (a1 : List Int) : Option (Bool) := if (a0.length : Int) = (a1.length : Int) then (l76_0 n a0 a1 n 0) else (some false)
theorem c76 (B : Nat) (w0 : World) (n : Nat) (a0 : List Int) (a1 : List Int) (ta0 : Tail) (ta1 : Tail) (H : AHeap) (K : AV → AHeap → Prop) (r : (Bool)) (hg : g76 n a0 a1 = some r)  (hK : K (.bool r) H) : ACall Tryz.prog B w0 76 [.dl 1 (List.map (AV.int .u64) a0) ta0, .dl 1 (List.map (AV.int .u64) a1) ta1] H K := by
 unfold g76 at hg
 refine ACall.enter Tryz.func76 (by kernel_rfl) rfl (eawp_sound noY_sound _ _ _ _ ?_)
 have hE : Ext H H := Ext.refl H
 simp only [EVA, reduceIte, reduceCtorEq, Tryz.ntmps76, rs76, (show IntKind.i64.wrap 1 = 1 from rfl)]
 rcases ite_some hg with ⟨h1, hg⟩ | ⟨h1, hg⟩
 ·refine Br.yes h1 ?_
  simp only [EVA, reduceIte, reduceCtorEq, eq_true h1, (show IntKind.i64.wrap 1 = 1 from rfl)]
  refine AWP.loop (σ := Nat × Int) (fun s => [.dl 1 (List.map (AV.int .u64) a0) ta0, .dl 1 (List.map (AV.int .u64) a1) ta1, .undef, .undef, .undef, .undef, .undef, .undef, .undef, .undef, .undef, .undef, .int .i64 (a0.length : Int), .int .i64 s.2, .undef, .undef, .undef, .undef, .undef, .undef, .undef, .undef, .undef, .undef, .undef, .undef]) (fun s H' => l76_0 n a0 a1 s.1 s.2 = some r ∧ SameH H H') (fun s => s.1) ⟨⟨n, 0⟩, (by repeat' first | exact Wk.nil | apply Wk.u | apply Wk.r), ⟨hg, (rfl : SameH _ _)⟩⟩ ?_
  rintro ⟨k3, x2⟩ H4 ⟨hg, hH9⟩ _
  unfold SameH at hH9
  subst hH9
  try dsimp only at hg
  cases k3 with
  | zero => simp only [l76_0, reduceCtorEq] at hg
  | succ k3 =>
   rw [l76_0] at hg
   refine eawp_sound noY_sound _ _ _ _ ?_
   simp only [EVA, reduceIte, reduceCtorEq, eq_true h1, (show IntKind.i64.wrap 1 = 1 from rfl)]
   rcases ite_some hg with ⟨h5, hg⟩ | ⟨h5, hg⟩
   ·refine Br.yes h5 ?_
    simp only [EVA, reduceIte, reduceCtorEq, eq_true h1, eq_true h5, (show IntKind.i64.wrap 1 = 1 from rfl)]
    refine AWP.draw noY_sound [[], [], [0, 1], [0, 1, 2], [], [], [4, 5], [4, 5, 6], [0, 1, 2, 3, 4, 5, 6, 7]] [⟨0, false, []⟩, ⟨1, false, []⟩, ⟨2, false, []⟩, ⟨3, false, []⟩, ⟨4, false, []⟩, ⟨5, false, []⟩, ⟨6, false, []⟩, ⟨7, false, []⟩, ⟨8, false, []⟩] [0, 1, 2, 3, 4, 5, 6, 7, 8] [0, 1, 2, 3, 4, 5, 6, 7, 8] (by kernel_rfl) ?_
    obtain ⟨h6, hg⟩ := guard_some hg
    have q7 : List.getD (List.map (AV.int .u64) a0) (Int.toNat x2) AV.undef = (AV.int .u64) (rd a0 x2) := rd_map (l := a0) (i := x2) (AV.int .u64) h6
    obtain ⟨h8, hg⟩ := guard_some hg
    have q9 : List.getD (List.map (AV.int .u64) a1) (Int.toNat x2) AV.undef = (AV.int .u64) (rd a1 x2) := rd_map (l := a1) (i := x2) (AV.int .u64) h8
    simp only [EVA, reduceIte, reduceCtorEq, eq_true h1, eq_true h5, eq_true h6.1, eq_true h6.2, q7, eq_true h8.1, eq_true h8.2, q9, (show IntKind.i64.wrap 1 = 1 from rfl)]
    rcases ite_some hg with ⟨h10, hg⟩ | ⟨h10, hg⟩
    ·refine Br.yes h10 ?_
     simp only [EVA, reduceIte, reduceCtorEq, eq_true h1, eq_true h5, eq_true h6.1, eq_true h6.2, q7, eq_true h8.1, eq_true h8.2, q9, eq_true h10, (show IntKind.i64.wrap 1 = 1 from rfl)]
     exact ⟨⟨k3, IntKind.i64.wrap (x2 + 1)⟩, (by repeat' first | exact Wk.nil | apply Wk.u | apply Wk.r), ⟨hg, (rfl : SameH _ _)⟩, Nat.lt_succ_self _⟩
    ·refine Br.no h10 ?_
     simp only [EVA, reduceIte, reduceCtorEq, rs76, eq_true h1, eq_true h5, eq_true h6.1, eq_true h6.2, q7, eq_true h8.1, eq_true h8.2, q9, eq_false h10, (show IntKind.i64.wrap 1 = 1 from rfl)]
     obtain rfl := Option.some.inj hg
     exact hK
   ·refine Br.no h5 ?_
    simp only [EVA, reduceIte, reduceCtorEq, rs76, eq_true h1, eq_false h5, (show IntKind.i64.wrap 1 = 1 from rfl)]
    obtain rfl := Option.some.inj hg
    exact hK
 ·refine Br.no h1 ?_
  simp only [EVA, reduceIte, reduceCtorEq, rs76, eq_false h1, (show IntKind.i64.wrap 1 = 1 from rfl)]
  obtain rfl := Option.some.inj hg
  exact hK
end Go.Av
end
