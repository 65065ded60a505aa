/- the walks, part 7 -/
import Derived.Test.YtcgndadlcgnilaaGreatA28
import Derived.Test.YtcgndadlcgnilaaGreatW1
set_option autoImplicit false
set_option linter.unusedSimpArgs false
set_option linter.unusedVariables false
section
set_option maxHeartbeats 1000000
set_option maxRecDepth 10000
namespace Go.Av
open Go.Proofs
/-- slices.Concat[[]skymosaic/proof.Proof,skymosaic/proof.Proof] -/
def l67_1 (n : Nat) (a0 : List (List S1)) : Nat → List S1 → Int → Option (List S1)
  | 0, _, _ => none
  | k18 + 1, x15, x17 => if x17 < (a0.length : Int) then (if (0 : Int) ≤ x17 ∧ x17 < (a0.length : Int) then (if x15.length + (rd a0 x17).length ≤ 1599289640401 then ((l67_1 n a0 k18) (x15 ++ (rd a0 x17)) (IntKind.i64.wrap (x17 + 1))) else none) else none) else (some x15)
def l67_0 (n : Nat) (a0 : List (List S1)) : Nat → Int → Int → Option (List S1)
  | 0, _, _ => none
  | k3 + 1, x1, x2 => if x2 < (a0.length : Int) then (if (0 : Int) ≤ x2 ∧ x2 < (a0.length : Int) then (if (IntKind.i64.wrap (x1 + ((rd a0 x2).length : Int))) < 0 then (none) else ((l67_0 n a0 k3) (IntKind.i64.wrap (x1 + ((rd a0 x2).length : Int))) (IntKind.i64.wrap (x2 + 1)))) else none) else ((g93 n x1).bind fun v9 => l67_1 n a0 n v9 0)
theorem rs67 : Tryz.f67.results.toList = [.tmp 2] := rfl
def g67 (n : Nat) (a0 : List (List S1)) : Option (List S1) := l67_0 n a0 n 0 0
theorem c67 (B : Nat) (w0 : World) (n : Nat) (a0 : List (List S1)) (ta0 : Tail) (H : AHeap) (K : AV → AHeap → Prop) (r : (List S1)) (hg : g67 n a0 = some r)  (hK : ∀ (q0 : Tail) (H' : AHeap), Ext H H' → Free H H' q0 → K (.dl 7 (List.map encS1 r) q0) H') : ACall Tryz.prog B w0 67 [.dl 1 (List.map encL3 a0) ta0] H K := by
  refine ACall.wkR ?_
  unfold g67 at hg
  refine ACall.enter Tryz.func67 (by kernel_rfl) rfl (eawp_sound noY_sound _ _ _ _ ?_)
  have hE : Ext H H := Ext.refl H
  simp only [EVA, Nat.reduceAdd, Nat.reduceMul, Nat.reduceSub, Nat.reduceLeDiff, Nat.reduceLT, Nat.reduceBEq, Nat.reduceEqDiff, reduceIte, reduceCtorEq, Int.reduceLT, Int.reduceLE, Int.reduceToNat, Int.reducePow, Nat.reducePow, Int.reduceAdd, Int.reduceSub, Int.reduceNeg, Int.reduceEq, String.reduceEq, Tryz.ntmps67, rs67, (show IntKind.i64.wrap 1 = 1 from rfl)]
  refine AWP.loop (σ := Nat × Int × Int) (fun s => [.dl 1 (List.map encL3 a0) ta0, .undef, .undef, .int .i64 s.2.1, .undef, .undef, .undef, .undef, .undef, .dl 1 (List.map encL3 a0) ta0, .int .i64 (a0.length : Int), .int .i64 s.2.2, .undef, .undef, .undef, .undef, .undef, .undef, .undef, .undef, .undef, .undef, .undef, .undef, .undef, .undef, .undef, .undef, .undef, .undef, .undef, .undef, .undef, .undef, .undef, .undef]) (fun s H' => l67_0 n a0 s.1 s.2.1 s.2.2 = some r ∧ SameH H H') (fun s => s.1) ⟨⟨n, 0, 0⟩, (by repeat' first | exact Wk.nil | apply Wk.u | apply Wk.r), ⟨hg, (rfl : SameH _ _)⟩⟩ ?_
  rintro ⟨k3, x1, x2⟩ H4 ⟨hg, hH9⟩ _
  unfold SameH at hH9
  subst hH9
  try dsimp only at hg
  cases k3 with
  | zero => simp only [l67_0, reduceCtorEq] at hg
  | succ k3 =>
    rw [l67_0] at hg
    refine eawp_sound noY_sound _ _ _ _ ?_
    simp only [EVA, Nat.reduceAdd, Nat.reduceMul, Nat.reduceSub, Nat.reduceLeDiff, Nat.reduceLT, Nat.reduceBEq, Nat.reduceEqDiff, reduceIte, reduceCtorEq, Int.reduceLT, Int.reduceLE, Int.reduceToNat, Int.reducePow, Nat.reducePow, Int.reduceAdd, Int.reduceSub, Int.reduceNeg, Int.reduceEq, String.reduceEq, (show IntKind.i64.wrap 1 = 1 from rfl)]
    rcases ite_some hg with ⟨h5, hg⟩ | ⟨h5, hg⟩
    · refine Br.yes h5 ?_
      obtain ⟨h6, hg⟩ := guard_some hg
      have q7 : List.getD (List.map encL3 a0) (Int.toNat x2) AV.undef = encL3 (rd a0 x2) := rd_map (l := a0) (i := x2) encL3 h6
      simp only [EVA, Nat.reduceAdd, Nat.reduceMul, Nat.reduceSub, Nat.reduceLeDiff, Nat.reduceLT, Nat.reduceBEq, Nat.reduceEqDiff, reduceIte, reduceCtorEq, Int.reduceLT, Int.reduceLE, Int.reduceToNat, Int.reducePow, Nat.reducePow, Int.reduceAdd, Int.reduceSub, Int.reduceNeg, Int.reduceEq, String.reduceEq, eq_true h5, eq_true h6.1, eq_true h6.2, q7, (show IntKind.i64.wrap 1 = 1 from rfl)]
      rcases ite_some hg with ⟨h8, hg⟩ | ⟨h8, hg⟩
      · refine Br.yes h8 ?_
        cases hg
      · refine Br.no h8 ?_
        simp only [EVA, Nat.reduceAdd, Nat.reduceMul, Nat.reduceSub, Nat.reduceLeDiff, Nat.reduceLT, Nat.reduceBEq, Nat.reduceEqDiff, reduceIte, reduceCtorEq, Int.reduceLT, Int.reduceLE, Int.reduceToNat, Int.reducePow, Nat.reducePow, Int.reduceAdd, Int.reduceSub, Int.reduceNeg, Int.reduceEq, String.reduceEq, eq_true h5, eq_true h6.1, eq_true h6.2, q7, eq_false h8, (show IntKind.i64.wrap 1 = 1 from rfl)]
        exact ⟨⟨k3, IntKind.i64.wrap (x1 + ((rd a0 x2).length : Int)), IntKind.i64.wrap (x2 + 1)⟩, (by repeat' first | exact Wk.nil | apply Wk.u | apply Wk.r), ⟨hg, (rfl : SameH _ _)⟩, Nat.lt_succ_self _⟩
    · refine Br.no h5 ?_
      simp only [EVA, Nat.reduceAdd, Nat.reduceMul, Nat.reduceSub, Nat.reduceLeDiff, Nat.reduceLT, Nat.reduceBEq, Nat.reduceEqDiff, reduceIte, reduceCtorEq, Int.reduceLT, Int.reduceLE, Int.reduceToNat, Int.reducePow, Nat.reducePow, Int.reduceAdd, Int.reduceSub, Int.reduceNeg, Int.reduceEq, String.reduceEq, eq_false h5, (show IntKind.i64.wrap 1 = 1 from rfl)]
      obtain ⟨v9, ch10, hg⟩ := bind_some hg
      refine ACall.wkA (args := [.dl 0 [] .full, .int .i64 x1]) (c93 B w0 n x1 _ _ v9 ch10  ?_) (WkA.cons (wkA.refl _) (WkA.cons (wkA.refl _) WkA.nil))
      intro tl11 H12 x13 F14
      have F14 := F14.low hE
      have hE := hE.trans x13
      simp only [EVA, Nat.reduceAdd, Nat.reduceMul, Nat.reduceSub, Nat.reduceLeDiff, Nat.reduceLT, Nat.reduceBEq, Nat.reduceEqDiff, reduceIte, reduceCtorEq, Int.reduceLT, Int.reduceLE, Int.reduceToNat, Int.reducePow, Nat.reducePow, Int.reduceAdd, Int.reduceSub, Int.reduceNeg, Int.reduceEq, String.reduceEq, eq_false h5, (show IntKind.i64.wrap 1 = 1 from rfl)]
      refine AWP.loop (σ := Nat × List S1 × Int × Tail) (fun s => [.undef, .undef, .undef, .undef, .undef, .undef, .dl 7 (List.map encS1 s.2.1) s.2.2.2, .undef, .undef, .undef, .undef, .undef, .undef, .undef, .undef, .undef, .undef, .undef, .undef, .undef, .undef, .undef, .undef, .undef, .undef, .dl 1 (List.map encL3 a0) ta0, .int .i64 (a0.length : Int), .int .i64 s.2.2.1, .undef, .undef, .undef, .undef, .undef, .undef, .undef, .undef]) (fun s H' => l67_1 n a0 s.1 s.2.1 s.2.2.1 = some r ∧ Ext H H' ∧ Free H H' s.2.2.2) (fun s => s.1) ⟨⟨n, v9, 0, tl11⟩, (by repeat' first | exact Wk.nil | apply Wk.u | apply Wk.r), ⟨hg, hE, F14⟩⟩ ?_
      rintro ⟨k18, x15, x17, tl16⟩ H19 ⟨hg, hE, F20⟩ _
      try dsimp only at hg F20
      cases k18 with
      | zero => simp only [l67_1, reduceCtorEq] at hg
      | succ k18 =>
        rw [l67_1] at hg
        refine eawp_sound noY_sound _ _ _ _ ?_
        simp only [EVA, Nat.reduceAdd, Nat.reduceMul, Nat.reduceSub, Nat.reduceLeDiff, Nat.reduceLT, Nat.reduceBEq, Nat.reduceEqDiff, reduceIte, reduceCtorEq, Int.reduceLT, Int.reduceLE, Int.reduceToNat, Int.reducePow, Nat.reducePow, Int.reduceAdd, Int.reduceSub, Int.reduceNeg, Int.reduceEq, String.reduceEq, eq_false h5, (show IntKind.i64.wrap 1 = 1 from rfl)]
        rcases ite_some hg with ⟨h21, hg⟩ | ⟨h21, hg⟩
        · refine Br.yes h21 ?_
          obtain ⟨h22, hg⟩ := guard_some hg
          have q23 : List.getD (List.map encL3 a0) (Int.toNat x17) AV.undef = encL3 (rd a0 x17) := rd_map (l := a0) (i := x17) encL3 h22
          simp only [EVA, Nat.reduceAdd, Nat.reduceMul, Nat.reduceSub, Nat.reduceLeDiff, Nat.reduceLT, Nat.reduceBEq, Nat.reduceEqDiff, reduceIte, reduceCtorEq, Int.reduceLT, Int.reduceLE, Int.reduceToNat, Int.reducePow, Nat.reducePow, Int.reduceAdd, Int.reduceSub, Int.reduceNeg, Int.reduceEq, String.reduceEq, eq_false h5, eq_true h21, eq_true h22.1, eq_true h22.2, q23, (show IntKind.i64.wrap 1 = 1 from rfl)]
          obtain ⟨h29, hg⟩ := guard_some hg
          refine AppE.goM (H0 := H) encS1 x15 (rd a0 x17) (n := 1599289640401) ty63 rfl ty64 rfl rfl (by decide) (.dl 7 (List.map encS1 (rd a0 x17)) .none) (wkD.refl _) (srcA_dl ty63 rfl) (.inl rfl) h29 (by decide) (by decide) hE F20 ?_
          intro tl24 H25 hE F26 p27 q28 l9
          simp only [EVA, Nat.reduceAdd, Nat.reduceMul, Nat.reduceSub, Nat.reduceLeDiff, Nat.reduceLT, Nat.reduceBEq, Nat.reduceEqDiff, reduceIte, reduceCtorEq, Int.reduceLT, Int.reduceLE, Int.reduceToNat, Int.reducePow, Nat.reducePow, Int.reduceAdd, Int.reduceSub, Int.reduceNeg, Int.reduceEq, String.reduceEq, eq_false h5, eq_true h21, eq_true h22.1, eq_true h22.2, q23, (show IntKind.i64.wrap 1 = 1 from rfl)]
          exact ⟨⟨k18, x15 ++ (rd a0 x17), IntKind.i64.wrap (x17 + 1), tl24⟩, (by repeat' first | exact Wk.nil | apply Wk.u | apply Wk.r), ⟨hg, hE, F26⟩, Nat.lt_succ_self _⟩
        · refine Br.no h21 ?_
          simp only [EVA, Nat.reduceAdd, Nat.reduceMul, Nat.reduceSub, Nat.reduceLeDiff, Nat.reduceLT, Nat.reduceBEq, Nat.reduceEqDiff, reduceIte, reduceCtorEq, Int.reduceLT, Int.reduceLE, Int.reduceToNat, Int.reducePow, Nat.reducePow, Int.reduceAdd, Int.reduceSub, Int.reduceNeg, Int.reduceEq, String.reduceEq, rs67, eq_false h5, eq_false h21, (show IntKind.i64.wrap 1 = 1 from rfl)]
          obtain rfl := Option.some.inj hg
          exact ⟨_, (wkR.a (wkA.refl _)), (hK tl16 _ hE F20)⟩
/-- slices.Index[[]uint64,uint64] -/
def l113_0 (n : Nat) (a0 : List Int) (a1 : Int) : Nat → Int → Option (Int)
  | 0, _ => none
  | k2 + 1, x1 => if x1 < (a0.length : Int) then (if (0 : Int) ≤ x1 ∧ x1 < (a0.length : Int) then (if a1 = (rd a0 x1) then (some x1) else ((l113_0 n a0 a1 k2) (IntKind.i64.wrap (x1 + 1)))) else none) else (some (-1))
theorem rs113 : Tryz.f113.results.toList = [.tmp 4] := rfl
def g113 (n : Nat) (a0 : List Int) (a1 : Int) : Option (Int) := l113_0 n a0 a1 n 0
theorem c113 (B : Nat) (w0 : World) (n : Nat) (a0 : List Int) (a1 : Int) (ta0 : Tail) (H : AHeap) (K : AV → AHeap → Prop) (r : (Int)) (hg : g113 n a0 a1 = some r)  (hK : K (.int .i64 r) H) : ACall Tryz.prog B w0 113 [.dl 1 (List.map (AV.int .u64) a0) ta0, .int .u64 a1] H K := by
  unfold g113 at hg
  refine ACall.enter Tryz.func113 (by kernel_rfl) rfl (eawp_sound noY_sound _ _ _ _ ?_)
  have hE : Ext H H := Ext.refl H
  simp only [EVA, Nat.reduceAdd, Nat.reduceMul, Nat.reduceSub, Nat.reduceLeDiff, Nat.reduceLT, Nat.reduceBEq, Nat.reduceEqDiff, reduceIte, reduceCtorEq, Int.reduceLT, Int.reduceLE, Int.reduceToNat, Int.reducePow, Nat.reducePow, Int.reduceAdd, Int.reduceSub, Int.reduceNeg, Int.reduceEq, String.reduceEq, Tryz.ntmps113, rs113, (show IntKind.i64.wrap 1 = 1 from rfl)]
  refine AWP.loop (σ := Nat × Int) (fun s => [.dl 1 (List.map (AV.int .u64) a0) ta0, .int .u64 a1, .undef, .undef, .undef, .undef, .undef, .int .i64 (a0.length : Int), .int .i64 s.2, .undef, .undef, .undef, .undef, .undef, .undef, .undef, .undef, .undef, .undef]) (fun s H' => l113_0 n a0 a1 s.1 s.2 = some r ∧ SameH H H') (fun s => s.1) ⟨⟨n, 0⟩, (by repeat' first | exact Wk.nil | apply Wk.u | apply Wk.r), ⟨hg, (rfl : SameH _ _)⟩⟩ ?_
  rintro ⟨k2, x1⟩ H3 ⟨hg, hH9⟩ _
  unfold SameH at hH9
  subst hH9
  try dsimp only at hg
  cases k2 with
  | zero => simp only [l113_0, reduceCtorEq] at hg
  | succ k2 =>
    rw [l113_0] at hg
    refine eawp_sound noY_sound _ _ _ _ ?_
    simp only [EVA, Nat.reduceAdd, Nat.reduceMul, Nat.reduceSub, Nat.reduceLeDiff, Nat.reduceLT, Nat.reduceBEq, Nat.reduceEqDiff, reduceIte, reduceCtorEq, Int.reduceLT, Int.reduceLE, Int.reduceToNat, Int.reducePow, Nat.reducePow, Int.reduceAdd, Int.reduceSub, Int.reduceNeg, Int.reduceEq, String.reduceEq, (show IntKind.i64.wrap 1 = 1 from rfl)]
    rcases ite_some hg with ⟨h4, hg⟩ | ⟨h4, hg⟩
    · refine Br.yes h4 ?_
      obtain ⟨h5, hg⟩ := guard_some hg
      have q6 : List.getD (List.map (AV.int .u64) a0) (Int.toNat x1) AV.undef = (AV.int .u64) (rd a0 x1) := rd_map (l := a0) (i := x1) (AV.int .u64) h5
      simp only [EVA, Nat.reduceAdd, Nat.reduceMul, Nat.reduceSub, Nat.reduceLeDiff, Nat.reduceLT, Nat.reduceBEq, Nat.reduceEqDiff, reduceIte, reduceCtorEq, Int.reduceLT, Int.reduceLE, Int.reduceToNat, Int.reducePow, Nat.reducePow, Int.reduceAdd, Int.reduceSub, Int.reduceNeg, Int.reduceEq, String.reduceEq, eq_true h4, eq_true h5.1, eq_true h5.2, q6, (show IntKind.i64.wrap 1 = 1 from rfl)]
      rcases ite_some hg with ⟨h7, hg⟩ | ⟨h7, hg⟩
      · refine Br.yes h7 ?_
        simp only [EVA, Nat.reduceAdd, Nat.reduceMul, Nat.reduceSub, Nat.reduceLeDiff, Nat.reduceLT, Nat.reduceBEq, Nat.reduceEqDiff, reduceIte, reduceCtorEq, Int.reduceLT, Int.reduceLE, Int.reduceToNat, Int.reducePow, Nat.reducePow, Int.reduceAdd, Int.reduceSub, Int.reduceNeg, Int.reduceEq, String.reduceEq, rs113, eq_true h4, eq_true h5.1, eq_true h5.2, q6, eq_true h7, (show IntKind.i64.wrap 1 = 1 from rfl)]
        obtain rfl := Option.some.inj hg
        exact hK
      · refine Br.no h7 ?_
        simp only [EVA, Nat.reduceAdd, Nat.reduceMul, Nat.reduceSub, Nat.reduceLeDiff, Nat.reduceLT, Nat.reduceBEq, Nat.reduceEqDiff, reduceIte, reduceCtorEq, Int.reduceLT, Int.reduceLE, Int.reduceToNat, Int.reducePow, Nat.reducePow, Int.reduceAdd, Int.reduceSub, Int.reduceNeg, Int.reduceEq, String.reduceEq, eq_true h4, eq_true h5.1, eq_true h5.2, q6, eq_false h7, (show IntKind.i64.wrap 1 = 1 from rfl)]
        exact ⟨⟨k2, IntKind.i64.wrap (x1 + 1)⟩, (by repeat' first | exact Wk.nil | apply Wk.u | apply Wk.r), ⟨hg, (rfl : SameH _ _)⟩, Nat.lt_succ_self _⟩
    · refine Br.no h4 ?_
      simp only [EVA, Nat.reduceAdd, Nat.reduceMul, Nat.reduceSub, Nat.reduceLeDiff, Nat.reduceLT, Nat.reduceBEq, Nat.reduceEqDiff, reduceIte, reduceCtorEq, Int.reduceLT, Int.reduceLE, Int.reduceToNat, Int.reducePow, Nat.reducePow, Int.reduceAdd, Int.reduceSub, Int.reduceNeg, Int.reduceEq, String.reduceEq, rs113, eq_false h4, (show IntKind.i64.wrap 1 = 1 from rfl)]
      obtain rfl := Option.some.inj hg
      exact hK
/-- slices.Contains[[]uint64,uint64] -/
theorem rs95 : Tryz.f95.results.toList = [.tmp 4] := rfl
def g95 (n : Nat) (a0 : List Int) (a1 : Int) : Option (Bool) := (g113 n a0 a1).bind fun v1 => some (decide (0 ≤ v1))
theorem c95 (B : Nat) (w0 : World) (n : Nat) (a0 : List Int) (a1 : Int) (ta0 : Tail) (H : AHeap) (K : AV → AHeap → Prop) (r : (Bool)) (hg : g95 n a0 a1 = some r)  (hK : K (.bool r) H) : ACall Tryz.prog B w0 95 [.dl 1 (List.map (AV.int .u64) a0) ta0, .int .u64 a1] H K := by
  unfold g95 at hg
  refine ACall.enter Tryz.func95 (by kernel_rfl) rfl (eawp_sound noY_sound _ _ _ _ ?_)
  have hE : Ext H H := Ext.refl H
  simp only [EVA, Nat.reduceAdd, Nat.reduceMul, Nat.reduceSub, Nat.reduceLeDiff, Nat.reduceLT, Nat.reduceBEq, Nat.reduceEqDiff, reduceIte, reduceCtorEq, Int.reduceLT, Int.reduceLE, Int.reduceToNat, Int.reducePow, Nat.reducePow, Int.reduceAdd, Int.reduceSub, Int.reduceNeg, Int.reduceEq, String.reduceEq, Tryz.ntmps95, rs95]
  obtain ⟨v1, ch2, hg⟩ := bind_some hg
  refine ACall.wkA (args := [.dl 1 (List.map (AV.int .u64) a0) ta0, .int .u64 a1]) (c113 B w0 n a0 a1 ta0 _ _ v1 ch2  ?_) (WkA.cons (wkA.refl _) (WkA.cons (wkA.refl _) WkA.nil))
  simp only [EVA, Nat.reduceAdd, Nat.reduceMul, Nat.reduceSub, Nat.reduceLeDiff, Nat.reduceLT, Nat.reduceBEq, Nat.reduceEqDiff, reduceIte, reduceCtorEq, Int.reduceLT, Int.reduceLE, Int.reduceToNat, Int.reducePow, Nat.reducePow, Int.reduceAdd, Int.reduceSub, Int.reduceNeg, Int.reduceEq, String.reduceEq, rs95]
  obtain rfl := Option.some.inj hg
  exact hK
/-- skymosaic/proof.Uses -/
theorem rs70 : Tryz.f70.results.toList = [.tmp 4] := rfl
def g70 (n : Nat) (a0 : S1) (a1 : Int) : Option (Bool) := (g95 n a0.c4 a1).bind fun v3 => some v3
theorem c70 (B : Nat) (w0 : World) (n : Nat) (a0 : S1) (a1 : Int) (H : AHeap) (K : AV → AHeap → Prop) (r : (Bool)) (hg : g70 n a0 a1 = some r)  (hK : ∀ (H' : AHeap), Ext H H' → K (.bool r) H') : ACall Tryz.prog B w0 70 [.agg [.int .i64 a0.c0, .int .i64 a0.c1, .int .i64 a0.c2, .int .u64 a0.c3, .dl 1 (List.map (AV.int .u64) a0.c4) .none, .dl 1 (List.map (AV.int .u64) a0.c5) .none, .int .u64 a0.c6], .int .u64 a1] H K := by
  unfold g70 at hg
  refine ACall.enter Tryz.func70 (by kernel_rfl) rfl (eawp_sound noY_sound _ _ _ _ ?_)
  have hE : Ext H H := Ext.refl H
  simp only [EVA, Nat.reduceAdd, Nat.reduceMul, Nat.reduceSub, Nat.reduceLeDiff, Nat.reduceLT, Nat.reduceBEq, Nat.reduceEqDiff, reduceIte, reduceCtorEq, Int.reduceLT, Int.reduceLE, Int.reduceToNat, Int.reducePow, Nat.reducePow, Int.reduceAdd, Int.reduceSub, Int.reduceNeg, Int.reduceEq, String.reduceEq, Tryz.ntmps70, rs70]
  refine eop_box_go (H0 := H) (v := .agg [.int .i64 a0.c0, .int .i64 a0.c1, .int .i64 a0.c2, .int .u64 a0.c3, .dl 1 (List.map (AV.int .u64) a0.c4) .none, .dl 1 (List.map (AV.int .u64) a0.c5) .none, .int .u64 a0.c6]) rfl rfl hE ?_
  intro o1 H2 hE xo1 g_o1 f_o1 n_o1
  have f_o1 : H2[o1]? = some (.cells ([.int .i64 a0.c0, .int .i64 a0.c1, .int .i64 a0.c2, .int .u64 a0.c3, .dl 1 (List.map (AV.int .u64) a0.c4) .none, .dl 1 (List.map (AV.int .u64) a0.c5) .none, .int .u64 a0.c6])) := f_o1
  simp only [EVA, Nat.reduceAdd, Nat.reduceMul, Nat.reduceSub, Nat.reduceLeDiff, Nat.reduceLT, Nat.reduceBEq, Nat.reduceEqDiff, reduceIte, reduceCtorEq, Int.reduceLT, Int.reduceLE, Int.reduceToNat, Int.reducePow, Nat.reducePow, Int.reduceAdd, Int.reduceSub, Int.reduceNeg, Int.reduceEq, String.reduceEq, f_o1]
  obtain ⟨v3, ch4, hg⟩ := bind_some hg
  refine ACall.wkA (args := [.dl 1 (List.map (AV.int .u64) a0.c4) .none, .int .u64 a1]) (c95 B w0 n a0.c4 a1 .none _ _ v3 ch4  ?_) (WkA.cons (wkA.refl _) (WkA.cons (wkA.refl _) WkA.nil))
  simp only [EVA, Nat.reduceAdd, Nat.reduceMul, Nat.reduceSub, Nat.reduceLeDiff, Nat.reduceLT, Nat.reduceBEq, Nat.reduceEqDiff, reduceIte, reduceCtorEq, Int.reduceLT, Int.reduceLE, Int.reduceToNat, Int.reducePow, Nat.reducePow, Int.reduceAdd, Int.reduceSub, Int.reduceNeg, Int.reduceEq, String.reduceEq, rs70, f_o1]
  obtain rfl := Option.some.inj hg
  exact (hK  _ hE )
/-- skymosaic/withdraw.named$1 -/
theorem rs69_0 : Tryz.f69.results.toList = [.tmp 3] := rfl
def g69_0 (n : Nat) (a0 : Int) (a1 : S1) : Option (Bool) := (g70 n (⟨a1.c0, a1.c1, a1.c2, a1.c3, a1.c4, a1.c5, a1.c6⟩ : S1) a0).bind fun v1 => some v1
theorem c69_0 (B : Nat) (w0 : World) (n : Nat) (a0 : Int) (a1 : S1) (pa1 : Nat) (H : AHeap) (K : AV → AHeap → Prop) (r : (Bool)) (hg : g69_0 n a0 a1 = some r) (f_pa1 : H[pa1]? = some (.cells ([.int .i64 a1.c0, .int .i64 a1.c1, .int .i64 a1.c2, .int .u64 a1.c3, .dl 1 (List.map (AV.int .u64) a1.c4) .none, .dl 1 (List.map (AV.int .u64) a1.c5) .none, .int .u64 a1.c6]))) (hK : ∀ (H' : AHeap), Ext H H' → K (.bool r) H') : ACall Tryz.prog B w0 69 [.int .u64 a0, .ptr pa1 0] H K := by
  unfold g69_0 at hg
  refine ACall.enter Tryz.func69 (by kernel_rfl) rfl (eawp_sound noY_sound _ _ _ _ ?_)
  have hE : Ext H H := Ext.refl H
  simp only [EVA, Nat.reduceAdd, Nat.reduceMul, Nat.reduceSub, Nat.reduceLeDiff, Nat.reduceLT, Nat.reduceBEq, Nat.reduceEqDiff, reduceIte, reduceCtorEq, Int.reduceLT, Int.reduceLE, Int.reduceToNat, Int.reducePow, Nat.reducePow, Int.reduceAdd, Int.reduceSub, Int.reduceNeg, Int.reduceEq, String.reduceEq, Tryz.ntmps69, rs69_0, f_pa1]
  obtain ⟨v1, ch2, hg⟩ := bind_some hg
  refine ACall.wkA (args := [.agg [.int .i64 a1.c0, .int .i64 a1.c1, .int .i64 a1.c2, .int .u64 a1.c3, .dl 1 (List.map (AV.int .u64) a1.c4) .none, .dl 1 (List.map (AV.int .u64) a1.c5) .none, .int .u64 a1.c6], .int .u64 a0]) (c70 B w0 n (⟨a1.c0, a1.c1, a1.c2, a1.c3, a1.c4, a1.c5, a1.c6⟩ : S1) a0 _ _ v1 ch2  ?_) (WkA.cons (wkA.agg (by repeat' first | exact Wk.nil | apply Wk.u | apply Wk.r)) (WkA.cons (wkA.refl _) WkA.nil))
  intro H3 x4
  have f_pa1 := x4.2 _ _ f_pa1
  have hE := hE.trans x4
  simp only [EVA, Nat.reduceAdd, Nat.reduceMul, Nat.reduceSub, Nat.reduceLeDiff, Nat.reduceLT, Nat.reduceBEq, Nat.reduceEqDiff, reduceIte, reduceCtorEq, Int.reduceLT, Int.reduceLE, Int.reduceToNat, Int.reducePow, Nat.reducePow, Int.reduceAdd, Int.reduceSub, Int.reduceNeg, Int.reduceEq, String.reduceEq, rs69_0, f_pa1]
  obtain rfl := Option.some.inj hg
  exact (hK  _ hE )
/-- slices.IndexFunc[[]uint64,uint64] -/
def l94_0_0 (n : Nat) (a0 : List Int) (a1c0 : S1) : Nat → Int → Option (Int)
  | 0, _ => none
  | k2 + 1, x1 => if x1 < (a0.length : Int) then (if (0 : Int) ≤ x1 ∧ x1 < (a0.length : Int) then ((g69_0 n (rd a0 x1) (⟨a1c0.c0, a1c0.c1, a1c0.c2, a1c0.c3, a1c0.c4, a1c0.c5, a1c0.c6⟩ : S1)).bind fun v7 => if v7 = true then (some x1) else ((l94_0_0 n a0 a1c0 k2) (IntKind.i64.wrap (x1 + 1)))) else none) else (some (-1))
theorem rs94_0 : Tryz.f94.results.toList = [.tmp 4] := rfl
def g94_0 (n : Nat) (a0 : List Int) (a1c0 : S1) : Option (Int) := l94_0_0 n a0 a1c0 n 0
theorem c94_0 (B : Nat) (w0 : World) (n : Nat) (a0 : List Int) (a1c0 : S1) (ta0 : Tail) (pa1c0 : Nat) (H : AHeap) (K : AV → AHeap → Prop) (r : (Int)) (hg : g94_0 n a0 a1c0 = some r) (f_pa1c0 : H[pa1c0]? = some (.cells ([.int .i64 a1c0.c0, .int .i64 a1c0.c1, .int .i64 a1c0.c2, .int .u64 a1c0.c3, .dl 1 (List.map (AV.int .u64) a1c0.c4) .none, .dl 1 (List.map (AV.int .u64) a1c0.c5) .none, .int .u64 a1c0.c6]))) (hK : ∀ (H' : AHeap), Ext H H' → K (.int .i64 r) H') : ACall Tryz.prog B w0 94 [.dl 1 (List.map (AV.int .u64) a0) ta0, .fn (.func 69) [] [.ptr pa1c0 0]] H K := by
  unfold g94_0 at hg
  refine ACall.enter Tryz.func94 (by kernel_rfl) rfl (eawp_sound noY_sound _ _ _ _ ?_)
  have hE : Ext H H := Ext.refl H
  simp only [EVA, Nat.reduceAdd, Nat.reduceMul, Nat.reduceSub, Nat.reduceLeDiff, Nat.reduceLT, Nat.reduceBEq, Nat.reduceEqDiff, reduceIte, reduceCtorEq, Int.reduceLT, Int.reduceLE, Int.reduceToNat, Int.reducePow, Nat.reducePow, Int.reduceAdd, Int.reduceSub, Int.reduceNeg, Int.reduceEq, String.reduceEq, Tryz.ntmps94, rs94_0, f_pa1c0, (show IntKind.i64.wrap 1 = 1 from rfl)]
  refine AWP.loop (σ := Nat × Int) (fun s => [.dl 1 (List.map (AV.int .u64) a0) ta0, .fn (.func 69) [] [.ptr pa1c0 0], .undef, .undef, .undef, .undef, .undef, .int .i64 (a0.length : Int), .int .i64 s.2, .undef, .undef, .undef, .undef, .undef, .undef, .undef, .undef, .undef, .undef]) (fun s H' => l94_0_0 n a0 a1c0 s.1 s.2 = some r ∧ Ext H H' ∧ ObjAt H' pa1c0 ([.int .i64 a1c0.c0, .int .i64 a1c0.c1, .int .i64 a1c0.c2, .int .u64 a1c0.c3, .dl 1 (List.map (AV.int .u64) a1c0.c4) .none, .dl 1 (List.map (AV.int .u64) a1c0.c5) .none, .int .u64 a1c0.c6])) (fun s => s.1) ⟨⟨n, 0⟩, (by repeat' first | exact Wk.nil | apply Wk.u | apply Wk.r), ⟨hg, hE, f_pa1c0⟩⟩ ?_
  rintro ⟨k2, x1⟩ H3 ⟨hg, hE, f9_pa1c0⟩ _
  have f_pa1c0 : H3[pa1c0]? = some (.cells ([.int .i64 a1c0.c0, .int .i64 a1c0.c1, .int .i64 a1c0.c2, .int .u64 a1c0.c3, .dl 1 (List.map (AV.int .u64) a1c0.c4) .none, .dl 1 (List.map (AV.int .u64) a1c0.c5) .none, .int .u64 a1c0.c6])) := f9_pa1c0
  clear f9_pa1c0
  try dsimp only at hg
  cases k2 with
  | zero => simp only [l94_0_0, reduceCtorEq] at hg
  | succ k2 =>
    rw [l94_0_0] at hg
    refine eawp_sound noY_sound _ _ _ _ ?_
    simp only [EVA, Nat.reduceAdd, Nat.reduceMul, Nat.reduceSub, Nat.reduceLeDiff, Nat.reduceLT, Nat.reduceBEq, Nat.reduceEqDiff, reduceIte, reduceCtorEq, Int.reduceLT, Int.reduceLE, Int.reduceToNat, Int.reducePow, Nat.reducePow, Int.reduceAdd, Int.reduceSub, Int.reduceNeg, Int.reduceEq, String.reduceEq, f_pa1c0, (show IntKind.i64.wrap 1 = 1 from rfl)]
    rcases ite_some hg with ⟨h4, hg⟩ | ⟨h4, hg⟩
    · refine Br.yes h4 ?_
      obtain ⟨h5, hg⟩ := guard_some hg
      have q6 : List.getD (List.map (AV.int .u64) a0) (Int.toNat x1) AV.undef = (AV.int .u64) (rd a0 x1) := rd_map (l := a0) (i := x1) (AV.int .u64) h5
      simp only [EVA, Nat.reduceAdd, Nat.reduceMul, Nat.reduceSub, Nat.reduceLeDiff, Nat.reduceLT, Nat.reduceBEq, Nat.reduceEqDiff, reduceIte, reduceCtorEq, Int.reduceLT, Int.reduceLE, Int.reduceToNat, Int.reducePow, Nat.reducePow, Int.reduceAdd, Int.reduceSub, Int.reduceNeg, Int.reduceEq, String.reduceEq, eq_true h4, eq_true h5.1, eq_true h5.2, q6, f_pa1c0, (show IntKind.i64.wrap 1 = 1 from rfl)]
      obtain ⟨v7, ch8, hg⟩ := bind_some hg
      refine ACall.wkA (args := [.int .u64 (rd a0 x1), .ptr pa1c0 0]) (c69_0 B w0 n (rd a0 x1) (⟨a1c0.c0, a1c0.c1, a1c0.c2, a1c0.c3, a1c0.c4, a1c0.c5, a1c0.c6⟩ : S1) pa1c0 _ _ v7 ch8 f_pa1c0 ?_) (WkA.cons (wkA.refl _) (WkA.cons (wkA.refl _) WkA.nil))
      intro H9 x10
      have f_pa1c0 := x10.2 _ _ f_pa1c0
      have hE := hE.trans x10
      rcases ite_some hg with ⟨h11, hg⟩ | ⟨h11, hg⟩
      · simp only [EVA, Nat.reduceAdd, Nat.reduceMul, Nat.reduceSub, Nat.reduceLeDiff, Nat.reduceLT, Nat.reduceBEq, Nat.reduceEqDiff, reduceIte, reduceCtorEq, Int.reduceLT, Int.reduceLE, Int.reduceToNat, Int.reducePow, Nat.reducePow, Int.reduceAdd, Int.reduceSub, Int.reduceNeg, Int.reduceEq, String.reduceEq, rs94_0, eq_true h4, eq_true h5.1, eq_true h5.2, q6, h11, f_pa1c0, (show IntKind.i64.wrap 1 = 1 from rfl)]
        obtain rfl := Option.some.inj hg
        exact (hK  _ hE )
      · have h11 := Bool.eq_false_iff.2 h11
        simp only [EVA, Nat.reduceAdd, Nat.reduceMul, Nat.reduceSub, Nat.reduceLeDiff, Nat.reduceLT, Nat.reduceBEq, Nat.reduceEqDiff, reduceIte, reduceCtorEq, Int.reduceLT, Int.reduceLE, Int.reduceToNat, Int.reducePow, Nat.reducePow, Int.reduceAdd, Int.reduceSub, Int.reduceNeg, Int.reduceEq, String.reduceEq, eq_true h4, eq_true h5.1, eq_true h5.2, q6, h11, f_pa1c0, (show IntKind.i64.wrap 1 = 1 from rfl)]
        exact ⟨⟨k2, IntKind.i64.wrap (x1 + 1)⟩, (by repeat' first | exact Wk.nil | apply Wk.u | apply Wk.r), ⟨hg, hE, f_pa1c0⟩, Nat.lt_succ_self _⟩
    · refine Br.no h4 ?_
      simp only [EVA, Nat.reduceAdd, Nat.reduceMul, Nat.reduceSub, Nat.reduceLeDiff, Nat.reduceLT, Nat.reduceBEq, Nat.reduceEqDiff, reduceIte, reduceCtorEq, Int.reduceLT, Int.reduceLE, Int.reduceToNat, Int.reducePow, Nat.reducePow, Int.reduceAdd, Int.reduceSub, Int.reduceNeg, Int.reduceEq, String.reduceEq, rs94_0, eq_false h4, f_pa1c0, (show IntKind.i64.wrap 1 = 1 from rfl)]
      obtain rfl := Option.some.inj hg
      exact (hK  _ hE )
/-- slices.ContainsFunc[[]uint64,uint64] -/
theorem rs68_0 : Tryz.f68.results.toList = [.tmp 4] := rfl
def g68_0 (n : Nat) (a0 : List Int) (a1c0 : S1) : Option (Bool) := (g94_0 n a0 (⟨a1c0.c0, a1c0.c1, a1c0.c2, a1c0.c3, a1c0.c4, a1c0.c5, a1c0.c6⟩ : S1)).bind fun v1 => some (decide (0 ≤ v1))
theorem c68_0 (B : Nat) (w0 : World) (n : Nat) (a0 : List Int) (a1c0 : S1) (ta0 : Tail) (pa1c0 : Nat) (H : AHeap) (K : AV → AHeap → Prop) (r : (Bool)) (hg : g68_0 n a0 a1c0 = some r) (f_pa1c0 : H[pa1c0]? = some (.cells ([.int .i64 a1c0.c0, .int .i64 a1c0.c1, .int .i64 a1c0.c2, .int .u64 a1c0.c3, .dl 1 (List.map (AV.int .u64) a1c0.c4) .none, .dl 1 (List.map (AV.int .u64) a1c0.c5) .none, .int .u64 a1c0.c6]))) (hK : ∀ (H' : AHeap), Ext H H' → K (.bool r) H') : ACall Tryz.prog B w0 68 [.dl 1 (List.map (AV.int .u64) a0) ta0, .fn (.func 69) [] [.ptr pa1c0 0]] H K := by
  unfold g68_0 at hg
  refine ACall.enter Tryz.func68 (by kernel_rfl) rfl (eawp_sound noY_sound _ _ _ _ ?_)
  have hE : Ext H H := Ext.refl H
  simp only [EVA, Nat.reduceAdd, Nat.reduceMul, Nat.reduceSub, Nat.reduceLeDiff, Nat.reduceLT, Nat.reduceBEq, Nat.reduceEqDiff, reduceIte, reduceCtorEq, Int.reduceLT, Int.reduceLE, Int.reduceToNat, Int.reducePow, Nat.reducePow, Int.reduceAdd, Int.reduceSub, Int.reduceNeg, Int.reduceEq, String.reduceEq, Tryz.ntmps68, rs68_0, f_pa1c0]
  obtain ⟨v1, ch2, hg⟩ := bind_some hg
  refine ACall.wkA (args := [.dl 1 (List.map (AV.int .u64) a0) ta0, .fn (.func 69) [] [.ptr pa1c0 0]]) (c94_0 B w0 n a0 (⟨a1c0.c0, a1c0.c1, a1c0.c2, a1c0.c3, a1c0.c4, a1c0.c5, a1c0.c6⟩ : S1) ta0 pa1c0 _ _ v1 ch2 f_pa1c0 ?_) (WkA.cons (wkA.refl _) (WkA.cons (wkA.refl _) WkA.nil))
  intro H3 x4
  have f_pa1c0 := x4.2 _ _ f_pa1c0
  have hE := hE.trans x4
  simp only [EVA, Nat.reduceAdd, Nat.reduceMul, Nat.reduceSub, Nat.reduceLeDiff, Nat.reduceLT, Nat.reduceBEq, Nat.reduceEqDiff, reduceIte, reduceCtorEq, Int.reduceLT, Int.reduceLE, Int.reduceToNat, Int.reducePow, Nat.reducePow, Int.reduceAdd, Int.reduceSub, Int.reduceNeg, Int.reduceEq, String.reduceEq, rs68_0, f_pa1c0]
  obtain rfl := Option.some.inj hg
  exact (hK  _ hE )
/-- skymosaic/withdraw.named -/
def l35_0 (n : Nat) (a1 : List Int) (v1 : (List S1)) : Nat → Int → Option (Bool)
  | 0, _ => none
  | k8 + 1, x7 => if x7 < (v1.length : Int) then (if (0 : Int) ≤ x7 ∧ x7 < (v1.length : Int) then ((g68_0 n a1 (⟨(rd v1 x7).c0, (rd v1 x7).c1, (rd v1 x7).c2, (rd v1 x7).c3, (rd v1 x7).c4, (rd v1 x7).c5, (rd v1 x7).c6⟩ : S1)).bind fun v18 => if v18 = true then (some true) else ((l35_0 n a1 v1 k8) (IntKind.i64.wrap (x7 + 1)))) else none) else (some false)
theorem rs35 : Tryz.f35.results.toList = [.tmp 4] := rfl
def g35 (n : Nat) (a0 : List (List S1)) (a1 : List Int) : Option (Bool) := (g67 n a0).bind fun v1 => l35_0 n a1 v1 n 0
theorem c35 (B : Nat) (w0 : World) (n : Nat) (a0 : List (List S1)) (a1 : List Int) (ta0 : Tail) (ta1 : Tail) (H : AHeap) (K : AV → AHeap → Prop) (r : (Bool)) (hg : g35 n a0 a1 = some r)  (hK : ∀ (H' : AHeap), Ext H H' → K (.bool r) H') : ACall Tryz.prog B w0 35 [.dl 1 (List.map encL3 a0) ta0, .dl 1 (List.map (AV.int .u64) a1) ta1] H K := by
  unfold g35 at hg
  refine ACall.enter Tryz.func35 (by kernel_rfl) rfl (eawp_sound noY_sound _ _ _ _ ?_)
  have hE : Ext H H := Ext.refl H
  simp only [EVA, Nat.reduceAdd, Nat.reduceMul, Nat.reduceSub, Nat.reduceLeDiff, Nat.reduceLT, Nat.reduceBEq, Nat.reduceEqDiff, reduceIte, reduceCtorEq, Int.reduceLT, Int.reduceLE, Int.reduceToNat, Int.reducePow, Nat.reducePow, Int.reduceAdd, Int.reduceSub, Int.reduceNeg, Int.reduceEq, String.reduceEq, Tryz.ntmps35, rs35, (show IntKind.i64.wrap 1 = 1 from rfl)]
  obtain ⟨v1, ch2, hg⟩ := bind_some hg
  refine ACall.wkA (args := [.dl 1 (List.map encL3 a0) ta0]) (c67 B w0 n a0 ta0 _ _ v1 ch2  ?_) (WkA.cons (wkA.refl _) WkA.nil)
  intro tl3 H4 x5 F6
  have F6 := F6.low hE
  have hE := hE.trans x5
  simp only [EVA, Nat.reduceAdd, Nat.reduceMul, Nat.reduceSub, Nat.reduceLeDiff, Nat.reduceLT, Nat.reduceBEq, Nat.reduceEqDiff, reduceIte, reduceCtorEq, Int.reduceLT, Int.reduceLE, Int.reduceToNat, Int.reducePow, Nat.reducePow, Int.reduceAdd, Int.reduceSub, Int.reduceNeg, Int.reduceEq, String.reduceEq, (show IntKind.i64.wrap 1 = 1 from rfl)]
  refine AWP.loop (σ := Nat × Int) (fun s => [.undef, .dl 1 (List.map (AV.int .u64) a1) ta1, .undef, .undef, .undef, .undef, .undef, .undef, .dl 7 (List.map encS1 v1) tl3, .int .i64 (v1.length : Int), .int .i64 s.2, .undef, .undef, .undef, .undef, .undef, .undef, .undef]) (fun s H' => l35_0 n a1 v1 s.1 s.2 = some r ∧ Ext H H' ∧ Free H H' tl3) (fun s => s.1) ⟨⟨n, 0⟩, (by repeat' first | exact Wk.nil | apply Wk.u | apply Wk.r), ⟨hg, hE, F6⟩⟩ ?_
  rintro ⟨k8, x7⟩ H9 ⟨hg, hE, F10⟩ _
  try dsimp only at hg F10
  cases k8 with
  | zero => simp only [l35_0, reduceCtorEq] at hg
  | succ k8 =>
    rw [l35_0] at hg
    refine eawp_sound noY_sound _ _ _ _ ?_
    simp only [EVA, Nat.reduceAdd, Nat.reduceMul, Nat.reduceSub, Nat.reduceLeDiff, Nat.reduceLT, Nat.reduceBEq, Nat.reduceEqDiff, reduceIte, reduceCtorEq, Int.reduceLT, Int.reduceLE, Int.reduceToNat, Int.reducePow, Nat.reducePow, Int.reduceAdd, Int.reduceSub, Int.reduceNeg, Int.reduceEq, String.reduceEq, (show IntKind.i64.wrap 1 = 1 from rfl)]
    rcases ite_some hg with ⟨h11, hg⟩ | ⟨h11, hg⟩
    · refine Br.yes h11 ?_
      obtain ⟨h12, hg⟩ := guard_some hg
      have q13 : List.getD (List.map encS1 v1) (Int.toNat x7) AV.undef = encS1 (rd v1 x7) := rd_map (l := v1) (i := x7) encS1 h12
      simp only [EVA, Nat.reduceAdd, Nat.reduceMul, Nat.reduceSub, Nat.reduceLeDiff, Nat.reduceLT, Nat.reduceBEq, Nat.reduceEqDiff, reduceIte, reduceCtorEq, Int.reduceLT, Int.reduceLE, Int.reduceToNat, Int.reducePow, Nat.reducePow, Int.reduceAdd, Int.reduceSub, Int.reduceNeg, Int.reduceEq, String.reduceEq, eq_true h11, eq_true h12.1, eq_true h12.2, q13, (show IntKind.i64.wrap 1 = 1 from rfl)]
      refine eop_alloc_go (H0 := H) ty64 rfl rfl hE ?_
      intro o14 H15 hE xo14 g_o14 f_o14 n_o14
      have F10 := F10.mono xo14
      have f_o14 : H15[o14]? = some (.cells ([.int .i64 0, .int .i64 0, .int .i64 0, .int .u64 0, .dl 0 [] .full, .dl 0 [] .full, .int .u64 0])) := f_o14
      simp only [EVA, Nat.reduceAdd, Nat.reduceMul, Nat.reduceSub, Nat.reduceLeDiff, Nat.reduceLT, Nat.reduceBEq, Nat.reduceEqDiff, reduceIte, reduceCtorEq, Int.reduceLT, Int.reduceLE, Int.reduceToNat, Int.reducePow, Nat.reducePow, Int.reduceAdd, Int.reduceSub, Int.reduceNeg, Int.reduceEq, String.reduceEq, eq_true h11, eq_true h12.1, eq_true h12.2, q13, f_o14, (show IntKind.i64.wrap 1 = 1 from rfl)]
      refine eop_store_go (H0 := H) (id := o14) (off := 0) (v := .agg [.int .i64 ((rd v1 x7).c0), .int .i64 ((rd v1 x7).c1), .int .i64 ((rd v1 x7).c2), .int .u64 ((rd v1 x7).c3), .dl 1 (List.map (AV.int .u64) ((rd v1 x7).c4)) .none, .dl 1 (List.map (AV.int .u64) ((rd v1 x7).c5)) .none, .int .u64 ((rd v1 x7).c6)]) rfl rfl f_o14 ty64 rfl rfl (Nat.le_of_ble_eq_true rfl) hE g_o14 ?_
      intro H16 hE f9_o14 p17 l9
      have F10 := F10.keep f_o14 p17
      have f_o14 : H16[o14]? = some (.cells ([.int .i64 ((rd v1 x7).c0), .int .i64 ((rd v1 x7).c1), .int .i64 ((rd v1 x7).c2), .int .u64 ((rd v1 x7).c3), .dl 1 (List.map (AV.int .u64) ((rd v1 x7).c4)) .none, .dl 1 (List.map (AV.int .u64) ((rd v1 x7).c5)) .none, .int .u64 ((rd v1 x7).c6)])) := f9_o14
      simp only [EVA, Nat.reduceAdd, Nat.reduceMul, Nat.reduceSub, Nat.reduceLeDiff, Nat.reduceLT, Nat.reduceBEq, Nat.reduceEqDiff, reduceIte, reduceCtorEq, Int.reduceLT, Int.reduceLE, Int.reduceToNat, Int.reducePow, Nat.reducePow, Int.reduceAdd, Int.reduceSub, Int.reduceNeg, Int.reduceEq, String.reduceEq, eq_true h11, eq_true h12.1, eq_true h12.2, q13, f_o14, (show IntKind.i64.wrap 1 = 1 from rfl)]
      obtain ⟨v18, ch19, hg⟩ := bind_some hg
      refine ACall.wkA (args := [.dl 1 (List.map (AV.int .u64) a1) ta1, .fn (.func 69) [] [.ptr o14 0]]) (c68_0 B w0 n a1 (⟨(rd v1 x7).c0, (rd v1 x7).c1, (rd v1 x7).c2, (rd v1 x7).c3, (rd v1 x7).c4, (rd v1 x7).c5, (rd v1 x7).c6⟩ : S1) ta1 o14 _ _ v18 ch19 f_o14 ?_) (WkA.cons (wkA.refl _) (WkA.cons (wkA.refl _) WkA.nil))
      intro H20 x21
      have F10 := F10.mono x21
      have f_o14 := x21.2 _ _ f_o14
      have hE := hE.trans x21
      rcases ite_some hg with ⟨h22, hg⟩ | ⟨h22, hg⟩
      · simp only [EVA, Nat.reduceAdd, Nat.reduceMul, Nat.reduceSub, Nat.reduceLeDiff, Nat.reduceLT, Nat.reduceBEq, Nat.reduceEqDiff, reduceIte, reduceCtorEq, Int.reduceLT, Int.reduceLE, Int.reduceToNat, Int.reducePow, Nat.reducePow, Int.reduceAdd, Int.reduceSub, Int.reduceNeg, Int.reduceEq, String.reduceEq, rs35, eq_true h11, eq_true h12.1, eq_true h12.2, q13, h22, f_o14, (show IntKind.i64.wrap 1 = 1 from rfl)]
        obtain rfl := Option.some.inj hg
        exact (hK  _ hE )
      · have h22 := Bool.eq_false_iff.2 h22
        simp only [EVA, Nat.reduceAdd, Nat.reduceMul, Nat.reduceSub, Nat.reduceLeDiff, Nat.reduceLT, Nat.reduceBEq, Nat.reduceEqDiff, reduceIte, reduceCtorEq, Int.reduceLT, Int.reduceLE, Int.reduceToNat, Int.reducePow, Nat.reducePow, Int.reduceAdd, Int.reduceSub, Int.reduceNeg, Int.reduceEq, String.reduceEq, eq_true h11, eq_true h12.1, eq_true h12.2, q13, h22, f_o14, (show IntKind.i64.wrap 1 = 1 from rfl)]
        exact ⟨⟨k8, IntKind.i64.wrap (x7 + 1)⟩, (by repeat' first | exact Wk.nil | apply Wk.u | apply Wk.r), ⟨hg, hE, F10⟩, Nat.lt_succ_self _⟩
    · refine Br.no h11 ?_
      simp only [EVA, Nat.reduceAdd, Nat.reduceMul, Nat.reduceSub, Nat.reduceLeDiff, Nat.reduceLT, Nat.reduceBEq, Nat.reduceEqDiff, reduceIte, reduceCtorEq, Int.reduceLT, Int.reduceLE, Int.reduceToNat, Int.reducePow, Nat.reducePow, Int.reduceAdd, Int.reduceSub, Int.reduceNeg, Int.reduceEq, String.reduceEq, rs35, eq_false h11, (show IntKind.i64.wrap 1 = 1 from rfl)]
      obtain rfl := Option.some.inj hg
      exact (hK  _ hE )
end Go.Av
end
