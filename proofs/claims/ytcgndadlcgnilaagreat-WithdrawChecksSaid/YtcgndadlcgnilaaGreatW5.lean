/- the walks, part 5 -/
import Derived.Test.YtcgndadlcgnilaaGreatA28
import Derived.Test.YtcgndadlcgnilaaGreatW1
import Derived.Test.YtcgndadlcgnilaaGreatW4
set_option autoImplicit false
set_option linter.unusedSimpArgs false
set_option linter.unusedVariables false
set_option linter.unnecessarySimpa false
section
set_option maxHeartbeats 1000000
set_option maxRecDepth 10000
namespace Go.Av
open Go.Proofs
/-- slices.pdqsortOrdered[uint64] -/
def l88_0_0 (n : Nat) : Nat → Option Unit
 | 0 => none
 | k1 + 1 => (g101_0 n ).bind fun v3 => some ()
theorem rs88_0 : Tryz.f88.results.toList = [] := rfl
def g88_0 (n : Nat) (a3 : Int) : Option Unit := l88_0_0 n n 
theorem c88_0 (B : Nat) (w0 : World) (n : Nat) (a3 : Int) (H : AHeap) (K : AV → AHeap → Prop) (r : Unit) (hg : g88_0 n a3 = some r)  (hK : K (.tup []) H) : ACall Tryz.prog B w0 88 [.dl 0 [] .full, .int .i64 0, .int .i64 0, .int .i64 a3] H K := by
 unfold g88_0 at hg
 refine ACall.enter Tryz.func88 (by kernel_rfl) rfl (eawp_sound noY_sound _ _ _ _ ?_)
 have hE : Ext H H := Ext.refl H
 simp only [EVA, Nat.reduceAdd, Nat.reduceMul, Nat.reduceSub, Nat.reduceLeDiff, Nat.reduceLT, Nat.reduceBEq, Nat.reduceEqDiff, reduceIte, reduceCtorEq, Int.reduceLT, Int.reduceLE, Int.reduceToNat, Int.reducePow, Nat.reducePow, Int.reduceAdd, Int.reduceSub, Int.reduceNeg, Int.reduceEq, String.reduceEq, Tryz.ntmps88, rs88_0, (show IntKind.i64.wrap 0 = 0 from rfl)]
 refine AWP.loop (σ := Nat) (fun s => [.dl 0 [] .full, .int .i64 0, .int .i64 0, .int .i64 a3, .undef, .undef, .undef, .undef, .bool true, .bool true, .undef, .undef, .undef, .undef, .undef, .undef, .undef, .undef, .undef, .undef, .undef, .undef, .undef, .undef, .undef, .undef, .undef, .undef, .undef, .undef, .undef, .undef, .undef, .undef, .undef, .undef, .undef, .undef, .undef, .undef, .undef, .undef, .undef, .undef, .undef, .undef, .undef, .undef, .undef, .undef, .undef, .undef, .undef, .undef, .undef, .undef, .undef, .undef, .undef, .undef, .undef, .undef, .undef, .undef, .undef, .undef, .undef, .undef, .undef, .undef, .undef, .undef, .undef, .undef, .undef, .undef, .undef, .undef, .undef, .undef, .undef, .undef, .undef, .undef, .undef, .undef, .undef, .undef, .undef, .undef, .undef, .undef, .undef, .undef, .undef, .undef, .undef, .undef, .undef, .undef, .undef, .undef, .undef, .undef, .undef, .undef, .undef, .undef, .undef, .undef, .undef, .undef, .undef, .undef, .undef, .undef, .undef, .undef, .undef, .undef, .undef, .undef, .undef, .undef, .undef, .undef, .undef, .undef, .undef, .undef, .undef, .undef, .undef, .undef]) (fun s H' => l88_0_0 n s = some r ∧ SameH H H') (fun s => s) ⟨n, (by repeat' first | exact Wk.nil | apply Wk.u | apply Wk.r), ⟨hg, (rfl : SameH _ _)⟩⟩ ?_
 rintro k1 H2 ⟨hg, hH9⟩ _
 unfold SameH at hH9
 subst hH9
 try dsimp only at hg
 cases k1 with
 | zero => simp only [l88_0_0, reduceCtorEq] at hg
 | succ k1 =>
  rw [l88_0_0] at hg
  refine eawp_sound noY_sound _ _ _ _ ?_
  simp only [EVA, Nat.reduceAdd, Nat.reduceMul, Nat.reduceSub, Nat.reduceLeDiff, Nat.reduceLT, Nat.reduceBEq, Nat.reduceEqDiff, reduceIte, reduceCtorEq, Int.reduceLT, Int.reduceLE, Int.reduceToNat, Int.reducePow, Nat.reducePow, Int.reduceAdd, Int.reduceSub, Int.reduceNeg, Int.reduceEq, String.reduceEq, (show IntKind.i64.wrap 0 = 0 from rfl)]
  obtain ⟨v3, ch4, hg⟩ := bind_some hg
  refine ACall.wkA (args := [.dl 0 [] .full, .int .i64 0, .int .i64 0]) (c101_0 B w0 n  _ _ v3 ch4  ?_) (WkA.r (WkA.r (WkA.r WkA.nil)))
  simp only [EVA, Nat.reduceAdd, Nat.reduceMul, Nat.reduceSub, Nat.reduceLeDiff, Nat.reduceLT, Nat.reduceBEq, Nat.reduceEqDiff, reduceIte, reduceCtorEq, Int.reduceLT, Int.reduceLE, Int.reduceToNat, Int.reducePow, Nat.reducePow, Int.reduceAdd, Int.reduceSub, Int.reduceNeg, Int.reduceEq, String.reduceEq, rs88_0, (show IntKind.i64.wrap 0 = 0 from rfl)]
  exact hK
/-- slices.Sort[[]uint64,uint64] -/
theorem rs63_0 : Tryz.f63.results.toList = [] := rfl
def g63_0 (n : Nat)  : Option Unit := (g89 n 0).bind fun v1 => (g88_0 n v1).bind fun v3 => some ()
theorem c63_0 (B : Nat) (w0 : World) (n : Nat)  (H : AHeap) (K : AV → AHeap → Prop) (r : Unit) (hg : g63_0 n  = some r)  (hK : K (.tup []) H) : ACall Tryz.prog B w0 63 [.dl 0 [] .full] H K := by
 unfold g63_0 at hg
 refine ACall.enter Tryz.func63 (by kernel_rfl) rfl (eawp_sound noY_sound _ _ _ _ ?_)
 have hE : Ext H H := Ext.refl H
 simp only [EVA, reduceIte, reduceCtorEq, Tryz.ntmps63, rs63_0, (show IntKind.u64.wrap 0 = 0 from rfl)]
 obtain ⟨v1, ch2, hg⟩ := bind_some hg
 refine ACall.wkA (args := [.int .u64 0]) (c89 B w0 n 0 _ _ v1 ch2  ?_) (WkA.r WkA.nil)
 simp only [EVA, reduceIte, reduceCtorEq, (show IntKind.u64.wrap 0 = 0 from rfl)]
 obtain ⟨v3, ch4, hg⟩ := bind_some hg
 refine ACall.wkA (args := [.dl 0 [] .full, .int .i64 0, .int .i64 0, .int .i64 v1]) (c88_0 B w0 n v1 _ _ v3 ch4  ?_) (WkA.r (WkA.r (WkA.r (WkA.r WkA.nil))))
 simp only [EVA, reduceIte, reduceCtorEq, rs63_0, (show IntKind.u64.wrap 0 = 0 from rfl)]
 exact hK
/-- slices.Compact[[]uint64,uint64] -/
theorem rs64_0 : Tryz.f64.results.toList = [.tmp 2] := rfl
def g64_0 (n : Nat)  : Option (List Int) := some ([] : List Int)
theorem c64_0 (B : Nat) (w0 : World) (n : Nat)  (H : AHeap) (K : AV → AHeap → Prop) (r : (List Int)) (hg : g64_0 n  = some r)  (hK : K (.dl 1 (List.map (AV.int .u64) r) .full) H) : ACall Tryz.prog B w0 64 [.dl 0 [] .full] H K := by
 refine ACall.wkR ?_
 unfold g64_0 at hg
 refine ACall.enter Tryz.func64 (by kernel_rfl) rfl (eawp_sound noY_sound _ _ _ _ ?_)
 have hE : Ext H H := Ext.refl H
 simp only [EVA, reduceIte, reduceCtorEq, Nat.reduceLT, Nat.reduceLeDiff, Int.reduceEq, Int.reduceLT, Int.reduceLE, Nat.reduceMul, Tryz.ntmps64, rs64_0, rs64_0]
 obtain rfl := Option.some.inj hg
 exact ⟨_, (wkR.a (wkA.v (wkV.nilf _ _))), hK⟩
/-- skymosaic/withdraw.sorted[uint64] -/
theorem rs33 : Tryz.f33.results.toList = [.tmp 2] := rfl
def g33 (n : Nat) (a0 : List Int) : Option (List Int) := if a0.length ≤ 17592186044416 then (if a0 = [] then ((g63_0 n ).bind fun v5 => (g64_0 n ).bind fun v7 => some v7) else ((g63 n a0 a0.length).bind fun v10 => (g64 n v10 a0.length).bind fun v13 => if v13.1 ≤ v13.2.length then (some (List.take v13.1 v13.2)) else none)) else none
theorem c33 (B : Nat) (w0 : World) (n : Nat) (a0 : List Int) (ta0 : Tail) (H : AHeap) (K : AV → AHeap → Prop) (r : (List Int)) (hg : g33 n a0 = some r)  (hK : ∀ (H' : AHeap), Ext H H' → K (.dl 1 (List.map (AV.int .u64) r) .none) H') : ACall Tryz.prog B w0 33 [.dl 1 (List.map (AV.int .u64) a0) ta0] H K := by
 refine ACall.frz ?_
 unfold g33 at hg
 refine ACall.enter Tryz.func33 (by kernel_rfl) rfl (eawp_sound noY_sound _ _ _ _ ?_)
 have hE : Ext H H := Ext.refl H
 simp only [EVA, reduceIte, reduceCtorEq, Tryz.ntmps33, rs33]
 obtain ⟨h2, hg⟩ := guard_some hg
 rcases ite_some hg with ⟨h1, hg⟩ | ⟨h1, hg⟩
 ·refine c62m B w0 n a0 ta0 _ _ _ h2 hE (fun _ => ?_) (fun h9 => absurd h1 h9)
  simp only [EVA, reduceIte, reduceCtorEq]
  obtain ⟨v5, ch6, hg⟩ := bind_some hg
  refine ACall.wkA (args := [.dl 0 [] .full]) (c63_0 B w0 n  _ _ v5 ch6  ?_) (WkA.r WkA.nil)
  simp only [EVA, reduceIte, reduceCtorEq]
  obtain ⟨v7, ch8, hg⟩ := bind_some hg
  refine ACall.wkA (args := [.dl 0 [] .full]) (c64_0 B w0 n  _ _ v7 ch8  ?_) (WkA.r WkA.nil)
  simp only [EVA, reduceIte, reduceCtorEq, rs33]
  obtain rfl := Option.some.inj hg
  exact .inl ⟨_, wkR.a (wkA.v (wkV.tail _ _ _)), hK _ hE⟩
 ·refine c62m B w0 n a0 ta0 _ _ _ h2 hE (fun h9 => absurd h9 h1) (fun _ => ?_)
  intro o3 H4 hE xo3 g_o3 f_o3 n_o3
  simp only [EVA, reduceIte, reduceCtorEq, f_o3]
  obtain ⟨v10, ch11, hg⟩ := bind_some hg
  refine ACall.wkA (args := [.sl 1 o3 0 a0.length]) (c63 B w0 n a0 a0.length o3 ([]) ([]) H _ _ v10 ch11 hE g_o3 f_o3 (Nf.nil _) (FrObj.nil _) (FrTl.nil _ _) ?_) (WkA.r WkA.nil)
  intro H12 hE f9_o3 hfo9 hft9
  have f_o3 : H12[o3]? = some (.cells (List.map (AV.int .u64) v10)) := f9_o3
  simp only [EVA, reduceIte, reduceCtorEq, f_o3]
  obtain ⟨v13, ch14, hg⟩ := bind_some hg
  refine ACall.wkA (args := [.sl 1 o3 0 a0.length]) (c64 B w0 n v10 a0.length o3 ([]) ([]) H _ _ v13 ch14 hE g_o3 f_o3 (Nf.nil _) (FrObj.nil _) (FrTl.nil _ _) ?_) (WkA.r WkA.nil)
  intro H15 hE f9_o3 hfo9 hft9
  have f_o3 : H15[o3]? = some (.cells (List.map (AV.int .u64) v13.2)) := f9_o3
  obtain ⟨h16, hg⟩ := guard_some hg
  simp only [EVA, reduceIte, reduceCtorEq, rs33, f_o3]
  obtain rfl := Option.some.inj hg
  refine .inr ⟨o3, v13.1, _, rfl, f_o3, by simpa using h16, frz_map (AV.int .u64) (fun _ => rfl) _, ?_⟩
  rw [← List.map_take]
  exact hK _ (hE.set _ g_o3)
/-- slices.Equal[[]int,int] -/
def l65_0 (n : Nat) (a0 : List Int) (a1 : List Int) : Nat → Int → Option (Bool)
 | 0, _ => none
 | k3 + 1, x2 => if x2 < (a0.length : Int) then (if (0 : Int) ≤ x2 ∧ x2 < (a0.length : Int) then (if (0 : Int) ≤ x2 ∧ x2 < (a1.length : Int) then (if (rd a0 x2) = (rd a1 x2) then ((l65_0 n a0 a1 k3) (IntKind.i64.wrap (x2 + 1))) else (some false)) else none) else none) else (some true)
theorem rs65 : Tryz.f65.results.toList = [.tmp 4] := rfl
def g65 (n : Nat) (a0 : List Int) (a1 : List Int) : Option (Bool) := if (a0.length : Int) = (a1.length : Int) then (l65_0 n a0 a1 n 0) else (some false)
theorem c65 (B : Nat) (w0 : World) (n : Nat) (a0 : List Int) (a1 : List Int) (ta0 : Tail) (ta1 : Tail) (H : AHeap) (K : AV → AHeap → Prop) (r : (Bool)) (hg : g65 n a0 a1 = some r)  (hK : K (.bool r) H) : ACall Tryz.prog B w0 65 [.dl 1 (List.map (AV.int .i64) a0) ta0, .dl 1 (List.map (AV.int .i64) a1) ta1] H K := by
 unfold g65 at hg
 refine ACall.enter Tryz.func65 (by kernel_rfl) rfl (eawp_sound noY_sound _ _ _ _ ?_)
 have hE : Ext H H := Ext.refl H
 simp only [EVA, reduceIte, reduceCtorEq, Tryz.ntmps65, rs65, (show IntKind.i64.wrap 1 = 1 from rfl)]
 rcases ite_some hg with ⟨h1, hg⟩ | ⟨h1, hg⟩
 ·refine Br.yes h1 ?_
  simp only [EVA, reduceIte, reduceCtorEq, eq_true h1, (show IntKind.i64.wrap 1 = 1 from rfl)]
  refine AWP.loop (σ := Nat × Int) (fun s => [.dl 1 (List.map (AV.int .i64) a0) ta0, .dl 1 (List.map (AV.int .i64) a1) ta1, .undef, .undef, .undef, .undef, .undef, .undef, .undef, .undef, .undef, .undef, .int .i64 (a0.length : Int), .int .i64 s.2, .undef, .undef, .undef, .undef, .undef, .undef, .undef, .undef, .undef, .undef, .undef, .undef]) (fun s H' => l65_0 n a0 a1 s.1 s.2 = some r ∧ SameH H H') (fun s => s.1) ⟨⟨n, 0⟩, (by repeat' first | exact Wk.nil | apply Wk.u | apply Wk.r), ⟨hg, (rfl : SameH _ _)⟩⟩ ?_
  rintro ⟨k3, x2⟩ H4 ⟨hg, hH9⟩ _
  unfold SameH at hH9
  subst hH9
  try dsimp only at hg
  cases k3 with
  | zero => simp only [l65_0, reduceCtorEq] at hg
  | succ k3 =>
   rw [l65_0] at hg
   refine eawp_sound noY_sound _ _ _ _ ?_
   simp only [EVA, reduceIte, reduceCtorEq, eq_true h1, (show IntKind.i64.wrap 1 = 1 from rfl)]
   rcases ite_some hg with ⟨h5, hg⟩ | ⟨h5, hg⟩
   ·refine Br.yes h5 ?_
    simp only [EVA, reduceIte, reduceCtorEq, eq_true h1, eq_true h5, (show IntKind.i64.wrap 1 = 1 from rfl)]
    refine AWP.draw noY_sound [[], [], [0, 1], [0, 1, 2], [], [], [4, 5], [4, 5, 6], [0, 1, 2, 3, 4, 5, 6, 7]] [⟨0, false, []⟩, ⟨1, false, []⟩, ⟨2, false, []⟩, ⟨3, false, []⟩, ⟨4, false, []⟩, ⟨5, false, []⟩, ⟨6, false, []⟩, ⟨7, false, []⟩, ⟨8, false, []⟩] [0, 1, 2, 3, 4, 5, 6, 7, 8] [0, 1, 2, 3, 4, 5, 6, 7, 8] (by kernel_rfl) ?_
    obtain ⟨h6, hg⟩ := guard_some hg
    have q7 : List.getD (List.map (AV.int .i64) a0) (Int.toNat x2) AV.undef = (AV.int .i64) (rd a0 x2) := rd_map (l := a0) (i := x2) (AV.int .i64) h6
    obtain ⟨h8, hg⟩ := guard_some hg
    have q9 : List.getD (List.map (AV.int .i64) a1) (Int.toNat x2) AV.undef = (AV.int .i64) (rd a1 x2) := rd_map (l := a1) (i := x2) (AV.int .i64) h8
    simp only [EVA, reduceIte, reduceCtorEq, eq_true h1, eq_true h5, eq_true h6.1, eq_true h6.2, q7, eq_true h8.1, eq_true h8.2, q9, (show IntKind.i64.wrap 1 = 1 from rfl)]
    rcases ite_some hg with ⟨h10, hg⟩ | ⟨h10, hg⟩
    ·refine Br.yes h10 ?_
     simp only [EVA, reduceIte, reduceCtorEq, eq_true h1, eq_true h5, eq_true h6.1, eq_true h6.2, q7, eq_true h8.1, eq_true h8.2, q9, eq_true h10, (show IntKind.i64.wrap 1 = 1 from rfl)]
     exact ⟨⟨k3, IntKind.i64.wrap (x2 + 1)⟩, (by repeat' first | exact Wk.nil | apply Wk.u | apply Wk.r), ⟨hg, (rfl : SameH _ _)⟩, Nat.lt_succ_self _⟩
    ·refine Br.no h10 ?_
     simp only [EVA, reduceIte, reduceCtorEq, rs65, eq_true h1, eq_true h5, eq_true h6.1, eq_true h6.2, q7, eq_true h8.1, eq_true h8.2, q9, eq_false h10, (show IntKind.i64.wrap 1 = 1 from rfl)]
     obtain rfl := Option.some.inj hg
     exact hK
   ·refine Br.no h5 ?_
    simp only [EVA, reduceIte, reduceCtorEq, rs65, eq_true h1, eq_false h5, (show IntKind.i64.wrap 1 = 1 from rfl)]
    obtain rfl := Option.some.inj hg
    exact hK
 ·refine Br.no h1 ?_
  simp only [EVA, reduceIte, reduceCtorEq, rs65, eq_false h1, (show IntKind.i64.wrap 1 = 1 from rfl)]
  obtain rfl := Option.some.inj hg
  exact hK
/-- cmp.isNaN[int] -/
theorem rs133 : Tryz.f133.results.toList = [.tmp 2] := rfl
def g133 (n : Nat) (a0 : Int) : Option (Bool) := some false
theorem c133 (B : Nat) (w0 : World) (n : Nat) (a0 : Int) (H : AHeap) (K : AV → AHeap → Prop) (r : (Bool)) (hg : g133 n a0 = some r)  (hK : K (.bool r) H) : ACall Tryz.prog B w0 133 [.int .i64 a0] H K := by
 unfold g133 at hg
 refine ACall.enter Tryz.func133 (by kernel_rfl) rfl (eawp_sound noY_sound _ _ _ _ ?_)
 have hE : Ext H H := Ext.refl H
 simp only [EVA, reduceIte, reduceCtorEq, Tryz.ntmps133, rs133, rs133]
 obtain rfl := Option.some.inj hg
 exact hK
/-- cmp.Less[int] -/
theorem rs126 : Tryz.f126.results.toList = [.tmp 4] := rfl
def g126 (n : Nat) (a0 : Int) (a1 : Int) : Option (Bool) := (g133 n a0).bind fun v1 => if v1 = true then ((g133 n a1).bind fun v4 => if v4 = true then (some (decide (a0 < a1))) else (some true)) else (some (decide (a0 < a1)))
theorem c126 (B : Nat) (w0 : World) (n : Nat) (a0 : Int) (a1 : Int) (H : AHeap) (K : AV → AHeap → Prop) (r : (Bool)) (hg : g126 n a0 a1 = some r)  (hK : K (.bool r) H) : ACall Tryz.prog B w0 126 [.int .i64 a0, .int .i64 a1] H K := by
 unfold g126 at hg
 refine ACall.enter Tryz.func126 (by kernel_rfl) rfl (eawp_sound noY_sound _ _ _ _ ?_)
 have hE : Ext H H := Ext.refl H
 simp only [EVA, reduceIte, reduceCtorEq, Tryz.ntmps126, rs126]
 obtain ⟨v1, ch2, hg⟩ := bind_some hg
 refine ACall.wkA (args := [.int .i64 a0]) (c133 B w0 n a0 _ _ v1 ch2  ?_) (WkA.r WkA.nil)
 rcases ite_some hg with ⟨h3, hg⟩ | ⟨h3, hg⟩
 ·simp only [EVA, reduceIte, reduceCtorEq, h3]
  obtain ⟨v4, ch5, hg⟩ := bind_some hg
  refine ACall.wkA (args := [.int .i64 a1]) (c133 B w0 n a1 _ _ v4 ch5  ?_) (WkA.r WkA.nil)
  rcases ite_some hg with ⟨h6, hg⟩ | ⟨h6, hg⟩
  ·simp only [EVA, reduceIte, reduceCtorEq, rs126, h3, h6]
   obtain rfl := Option.some.inj hg
   exact hK
  ·have h6 := Bool.eq_false_iff.2 h6
   simp only [EVA, reduceIte, reduceCtorEq, rs126, h3, h6]
   obtain rfl := Option.some.inj hg
   exact hK
 ·have h3 := Bool.eq_false_iff.2 h3
  simp only [EVA, reduceIte, reduceCtorEq, rs126, h3]
  obtain rfl := Option.some.inj hg
  exact hK
/-- slices.insertionSortOrdered[int] -/
def l120_1 (n : Nat) (l120_0_REC : Int → List Int → Option (List Int)) (za0 : Nat) (a1 : Int) (x1 : Int) : Nat → Int → List Int → Option (List Int)
 | 0, _, _ => none
 | k8 + 1, x6, x7 => if a1 < x6 then (if (0 : Int) ≤ x6 ∧ x6 < ((za0 : Nat) : Int) then (if (Int.toNat x6) < x7.length then (if (0 : Int) ≤ (IntKind.i64.wrap (x6 - 1)) ∧ (IntKind.i64.wrap (x6 - 1)) < ((za0 : Nat) : Int) then (if (Int.toNat (IntKind.i64.wrap (x6 - 1))) < x7.length then ((g126 n (rdn x7 (Int.toNat x6)) (rdn x7 (Int.toNat (IntKind.i64.wrap (x6 - 1))))).bind fun v17 => if v17 = true then (if (0 : Int) ≤ (IntKind.i64.wrap (x6 - 1)) ∧ (IntKind.i64.wrap (x6 - 1)) < ((za0 : Nat) : Int) then (if (Int.toNat (IntKind.i64.wrap (x6 - 1))) < x7.length then (if (0 : Int) ≤ x6 ∧ x6 < ((za0 : Nat) : Int) then (if (Int.toNat x6) < x7.length then (if (0 : Int) ≤ x6 ∧ x6 < ((za0 : Nat) : Int) then (if (Int.toNat x6) < x7.length then (if (0 : Int) ≤ (IntKind.i64.wrap (x6 - 1)) ∧ (IntKind.i64.wrap (x6 - 1)) < ((za0 : Nat) : Int) then (if (Int.toNat (IntKind.i64.wrap (x6 - 1))) < (List.set x7 (Int.toNat x6) (rdn x7 (Int.toNat (IntKind.i64.wrap (x6 - 1))))).length then ((l120_1 n l120_0_REC za0 a1 x1 k8) (IntKind.i64.wrap (x6 - 1)) (List.set (List.set x7 (Int.toNat x6) (rdn x7 (Int.toNat (IntKind.i64.wrap (x6 - 1))))) (Int.toNat (IntKind.i64.wrap (x6 - 1))) (rdn x7 (Int.toNat x6)))) else none) else none) else none) else none) else none) else none) else none) else none) else (l120_0_REC (IntKind.i64.wrap (x1 + 1)) x7)) else none) else none) else none) else none) else (l120_0_REC (IntKind.i64.wrap (x1 + 1)) x7)
def l120_0 (n : Nat) (za0 : Nat) (a1 : Int) (a2 : Int) : Nat → Int → List Int → Option (List Int)
 | 0, _, _ => none
 | k3 + 1, x1, x2 => if x1 < a2 then (l120_1 n (l120_0 n za0 a1 a2 k3) za0 a1 x1 n x1 x2) else (some x2)
theorem rs120 : Tryz.f120.results.toList = [] := rfl
def g120 (n : Nat) (a0 : List Int) (za0 : Nat) (a1 : Int) (a2 : Int) : Option (List Int) := l120_0 n za0 a1 a2 n (IntKind.i64.wrap (a1 + 1)) a0
theorem c120 (B : Nat) (w0 : World) (n : Nat) (a0 : List Int) (za0 : Nat) (a1 : Int) (a2 : Int) (pa0 : Nat) (fs : List (Nat × AObj)) (ts : List Tail) (H0 H : AHeap) (K : AV → AHeap → Prop) (r : (List Int)) (hg : g120 n a0 za0 a1 a2 = some r) (hE : Ext H0 H) (g_pa0 : H0.length ≤ pa0) (f_pa0 : H[pa0]? = some (.cells (List.map (AV.int .i64) a0))) (nf_pa0 : Nf fs pa0) (hfo : FrObj H fs) (hft : FrTl H0 H ts) (hK : ∀ (H' : AHeap), Ext H0 H' → H'[pa0]? = some (.cells (List.map (AV.int .i64) r)) → FrObj H' fs → FrTl H0 H' ts → K (.tup []) H') : ACall Tryz.prog B w0 120 [.sl 1 pa0 0 za0, .int .i64 a1, .int .i64 a2] H K := by
 unfold g120 at hg
 refine ACall.enter Tryz.func120 (by kernel_rfl) rfl (eawp_sound noY_sound _ _ _ _ ?_)
 simp only [EVA, reduceIte, reduceCtorEq, Tryz.ntmps120, rs120, f_pa0]
 refine AWP.loop (σ := Nat × Int × List Int) (fun s => [.sl 1 pa0 0 za0, .int .i64 a1, .int .i64 a2, .undef, .undef, .undef, .int .i64 s.2.1, .undef, .undef, .undef, .undef, .undef, .undef, .undef, .undef, .undef, .undef, .undef, .undef, .undef, .undef, .undef, .undef, .undef, .undef, .undef, .undef, .undef, .undef, .undef, .undef, .undef, .undef, .undef, .undef, .undef, .undef, .undef, .undef, .undef, .undef, .undef, .undef, .undef, .undef, .undef, .undef, .undef, .undef]) (fun s H' => l120_0 n za0 a1 a2 s.1 s.2.1 s.2.2 = some r ∧ Ext H0 H' ∧ ObjAt H' pa0 (List.map (AV.int .i64) s.2.2) ∧ FrObj H' fs ∧ FrTl H0 H' ts) (fun s => s.1) ⟨⟨n, IntKind.i64.wrap (a1 + 1), a0⟩, (by repeat' first | exact Wk.nil | apply Wk.u | apply Wk.r), ⟨hg, hE, f_pa0, hfo, hft⟩⟩ ?_
 rintro ⟨k3, x1, x2⟩ H4 ⟨hg, hE, f9_pa0, hfo, hft⟩ _
 have f_pa0 : H4[pa0]? = some (.cells (List.map (AV.int .i64) x2)) := f9_pa0
 clear f9_pa0
 try dsimp only at hg
 cases k3 with
 | zero => simp only [l120_0, reduceCtorEq] at hg
 | succ k3 =>
  rw [l120_0] at hg
  refine eawp_sound noY_sound _ _ _ _ ?_
  simp only [EVA, reduceIte, reduceCtorEq, f_pa0]
  rcases ite_some hg with ⟨h5, hg⟩ | ⟨h5, hg⟩
  ·refine Br.yes h5 ?_
   simp only [EVA, reduceIte, reduceCtorEq, eq_true h5, f_pa0]
   refine AWP.loop (σ := Nat × Int × List Int) (fun s => [.sl 1 pa0 0 za0, .int .i64 a1, .int .i64 a2, .undef, .undef, .undef, .int .i64 x1, .int .i64 s.2.1, .undef, .undef, .undef, .undef, .undef, .undef, .undef, .undef, .undef, .undef, .undef, .undef, .undef, .undef, .undef, .undef, .undef, .undef, .undef, .undef, .undef, .undef, .undef, .undef, .undef, .undef, .undef, .undef, .undef, .undef, .undef, .undef, .undef, .undef, .undef, .undef, .undef, .undef, .undef, .undef, .undef]) (fun s H' => l120_1 n (l120_0 n za0 a1 a2 k3) za0 a1 x1 s.1 s.2.1 s.2.2 = some r ∧ Ext H0 H' ∧ ObjAt H' pa0 (List.map (AV.int .i64) s.2.2) ∧ FrObj H' fs ∧ FrTl H0 H' ts) (fun s => s.1) ⟨⟨n, x1, x2⟩, (by repeat' first | exact Wk.nil | apply Wk.u | apply Wk.r), ⟨hg, hE, f_pa0, hfo, hft⟩⟩ ?_
   rintro ⟨k8, x6, x7⟩ H9 ⟨hg, hE, f9_pa0, hfo, hft⟩ _
   have f_pa0 : H9[pa0]? = some (.cells (List.map (AV.int .i64) x7)) := f9_pa0
   clear f9_pa0
   try dsimp only at hg
   cases k8 with
   | zero => simp only [l120_1, reduceCtorEq] at hg
   | succ k8 =>
    rw [l120_1] at hg
    refine eawp_sound noY_sound _ _ _ _ ?_
    simp only [EVA, reduceIte, reduceCtorEq, eq_true h5, f_pa0]
    refine AWP.draw noY_sound [[], [], [0, 1], [0, 1, 2], [0, 1, 2, 3], [0, 1, 2, 3], [0, 1, 2, 3, 4, 5], [0, 1, 2, 3, 4, 5, 6], [0, 1, 2, 3], [0, 1, 2, 3], [0, 1, 2, 3, 9], [0, 1, 2, 3, 8, 9, 10], [0, 1, 2, 3, 8, 9, 10, 11], [0, 1, 2, 3, 4, 5, 6, 7, 8, 9, 10, 11, 12], [0, 1, 2, 3, 4, 5, 6, 7, 8, 9, 10, 11, 12, 13]] [⟨0, false, []⟩, ⟨1, false, []⟩, ⟨2, false, []⟩, ⟨3, false, []⟩, ⟨4, false, []⟩, ⟨5, false, []⟩, ⟨6, false, []⟩, ⟨7, false, []⟩, ⟨8, false, []⟩, ⟨9, false, []⟩, ⟨10, false, []⟩, ⟨11, false, []⟩, ⟨12, false, []⟩, ⟨13, true, []⟩, ⟨14, false, []⟩] [0, 1, 2, 3, 4, 5, 6, 7, 8, 9, 10, 11, 12, 13, 14] [0, 1, 2, 3, 4, 5, 6, 7, 8, 9, 10, 11, 12, 13, 14] (by kernel_rfl) ?_
    simp only [EVA, reduceIte, reduceCtorEq, eq_true h5, f_pa0]
    rcases ite_some hg with ⟨h10, hg⟩ | ⟨h10, hg⟩
    ·refine Br.yes h10 ?_
     obtain ⟨h11, hg⟩ := guard_some hg
     obtain ⟨h12, hg⟩ := guard_some hg
     have q13 := rdn_map (AV.int .i64) h12
     obtain ⟨h14, hg⟩ := guard_some hg
     obtain ⟨h15, hg⟩ := guard_some hg
     have q16 := rdn_map (AV.int .i64) h15
     simp only [EVA, reduceIte, reduceCtorEq, eq_true h5, eq_true h10, eq_true h11.1, eq_true h11.2, q13, eq_true h14.1, eq_true h14.2, q16, f_pa0]
     obtain ⟨v17, ch18, hg⟩ := bind_some hg
     refine ACall.wkA (args := [.int .i64 (rdn x7 (Int.toNat x6)), .int .i64 (rdn x7 (Int.toNat (IntKind.i64.wrap (x6 - 1))))]) (c126 B w0 n (rdn x7 (Int.toNat x6)) (rdn x7 (Int.toNat (IntKind.i64.wrap (x6 - 1)))) _ _ v17 ch18  ?_) (WkA.r (WkA.r WkA.nil))
     rcases ite_some hg with ⟨h19, hg⟩ | ⟨h19, hg⟩
     ·simp only [EVA, reduceIte, reduceCtorEq, eq_true h5, eq_true h10, eq_true h11.1, eq_true h11.2, q13, eq_true h14.1, eq_true h14.2, q16, h19, f_pa0]
      refine AWP.draw noY_sound [[], [], [], [], [3], [], [], [6], [5, 6, 7], [5, 6, 7, 8], [], [], [10, 11], [10, 11, 12], [0, 1, 5, 6, 7, 8, 9, 10, 11, 12, 13], [0, 1, 5, 6, 7, 8, 9, 10, 11, 12, 13, 14], [0, 1, 2, 3, 4, 5, 6, 7, 8, 9, 10, 11, 12, 13, 14, 15], [0, 1, 2, 3, 4, 5, 6, 7, 8, 9, 10, 11, 12, 13, 14, 15, 16]] [⟨0, false, []⟩, ⟨1, false, []⟩, ⟨2, false, []⟩, ⟨3, false, []⟩, ⟨4, false, []⟩, ⟨5, false, []⟩, ⟨6, false, []⟩, ⟨7, false, []⟩, ⟨8, false, []⟩, ⟨9, false, []⟩, ⟨10, false, []⟩, ⟨11, false, []⟩, ⟨12, false, []⟩, ⟨13, false, []⟩, ⟨14, false, []⟩, ⟨15, true, []⟩, ⟨16, false, []⟩, ⟨17, true, []⟩] [0, 1, 2, 3, 4, 5, 6, 7, 8, 9, 10, 11, 12, 13, 14, 15, 16, 17] [0, 1, 5, 6, 7, 8, 9, 10, 11, 12, 13, 14, 15, 2, 3, 4, 16, 17] (by kernel_rfl) ?_
      obtain ⟨h20, hg⟩ := guard_some hg
      obtain ⟨h21, hg⟩ := guard_some hg
      have q22 := rdn_map (AV.int .i64) h21
      obtain ⟨h23, hg⟩ := guard_some hg
      obtain ⟨h24, hg⟩ := guard_some hg
      have q25 := rdn_map (AV.int .i64) h24
      obtain ⟨h26, hg⟩ := guard_some hg
      simp only [EVA, reduceIte, reduceCtorEq, eq_true h5, eq_true h10, eq_true h11.1, eq_true h11.2, q13, eq_true h14.1, eq_true h14.2, q16, h19, eq_true h20.1, eq_true h20.2, q22, eq_true h23.1, eq_true h23.2, q25, eq_true h26.1, eq_true h26.2, f_pa0]
      obtain ⟨h29, hg⟩ := guard_some hg
      refine eop_storeL_go (H0 := H0) (id := pa0) (off := (Int.toNat x6)) (AV.int .i64) (l := x7) (v := rdn x7 (Int.toNat (IntKind.i64.wrap (x6 - 1)))) rfl rfl f_pa0 ty3 rfl rfl rfl h29 hE g_pa0 ?_
      intro H27 hE f9_pa0 p28 l9
      have hft := hft.keep f_pa0 p28
      have hfo := hfo.keep nf_pa0 p28
      have f_pa0 : H27[pa0]? = some (.cells (List.map (AV.int .i64) (List.set x7 (Int.toNat x6) (rdn x7 (Int.toNat (IntKind.i64.wrap (x6 - 1))))))) := f9_pa0
      obtain ⟨h30, hg⟩ := guard_some hg
      simp only [EVA, reduceIte, reduceCtorEq, eq_true h5, eq_true h10, eq_true h11.1, eq_true h11.2, q13, eq_true h14.1, eq_true h14.2, q16, h19, eq_true h20.1, eq_true h20.2, q22, eq_true h23.1, eq_true h23.2, q25, eq_true h26.1, eq_true h26.2, eq_true h30.1, eq_true h30.2, f_pa0]
      obtain ⟨h33, hg⟩ := guard_some hg
      refine eop_storeL_go (H0 := H0) (id := pa0) (off := (Int.toNat (IntKind.i64.wrap (x6 - 1)))) (AV.int .i64) (l := List.set x7 (Int.toNat x6) (rdn x7 (Int.toNat (IntKind.i64.wrap (x6 - 1))))) (v := rdn x7 (Int.toNat x6)) rfl rfl f_pa0 ty3 rfl rfl rfl h33 hE g_pa0 ?_
      intro H31 hE f9_pa0 p32 l9
      have hft := hft.keep f_pa0 p32
      have hfo := hfo.keep nf_pa0 p32
      have f_pa0 : H31[pa0]? = some (.cells (List.map (AV.int .i64) (List.set (List.set x7 (Int.toNat x6) (rdn x7 (Int.toNat (IntKind.i64.wrap (x6 - 1))))) (Int.toNat (IntKind.i64.wrap (x6 - 1))) (rdn x7 (Int.toNat x6))))) := f9_pa0
      simp only [EVA, reduceIte, reduceCtorEq, eq_true h5, eq_true h10, eq_true h11.1, eq_true h11.2, q13, eq_true h14.1, eq_true h14.2, q16, h19, eq_true h20.1, eq_true h20.2, q22, eq_true h23.1, eq_true h23.2, q25, eq_true h26.1, eq_true h26.2, eq_true h30.1, eq_true h30.2, f_pa0]
      exact ⟨⟨k8, IntKind.i64.wrap (x6 - 1), List.set (List.set x7 (Int.toNat x6) (rdn x7 (Int.toNat (IntKind.i64.wrap (x6 - 1))))) (Int.toNat (IntKind.i64.wrap (x6 - 1))) (rdn x7 (Int.toNat x6))⟩, (by repeat' first | exact Wk.nil | apply Wk.u | apply Wk.r), ⟨hg, hE, f_pa0, hfo, hft⟩, Nat.lt_succ_self _⟩
     ·have h19 := Bool.eq_false_iff.2 h19
      simp only [EVA, reduceIte, reduceCtorEq, eq_true h5, eq_true h10, eq_true h11.1, eq_true h11.2, q13, eq_true h14.1, eq_true h14.2, q16, h19, f_pa0]
      exact ⟨⟨k3, IntKind.i64.wrap (x1 + 1), x7⟩, (by repeat' first | exact Wk.nil | apply Wk.u | apply Wk.r), ⟨hg, hE, f_pa0, hfo, hft⟩, Nat.lt_succ_self _⟩
    ·refine Br.no h10 ?_
     simp only [EVA, reduceIte, reduceCtorEq, eq_true h5, eq_false h10, f_pa0]
     exact ⟨⟨k3, IntKind.i64.wrap (x1 + 1), x7⟩, (by repeat' first | exact Wk.nil | apply Wk.u | apply Wk.r), ⟨hg, hE, f_pa0, hfo, hft⟩, Nat.lt_succ_self _⟩
  ·refine Br.no h5 ?_
   simp only [EVA, reduceIte, reduceCtorEq, rs120, eq_false h5, f_pa0]
   obtain rfl := Option.some.inj hg
   exact (hK  _ hE f_pa0 hfo hft)
/-- slices.pdqsortOrdered[int] -/
def l112_0 (n : Nat) (a0 : List Int) (za0 : Nat) (a1 : Int) (a2 : Int) (a3 : Int) : Nat → Option (List Int)
 | 0 => none
 | k1 + 1 => if (IntKind.i64.wrap (a2 - a1)) ≤ 12 then ((g120 n a0 za0 a1 a2).bind fun v4 => some v4) else (if a3 = 0 then (none) else (none))
theorem rs112 : Tryz.f112.results.toList = [] := rfl
def g112 (n : Nat) (a0 : List Int) (za0 : Nat) (a1 : Int) (a2 : Int) (a3 : Int) : Option (List Int) := l112_0 n a0 za0 a1 a2 a3 n 
theorem c112 (B : Nat) (w0 : World) (n : Nat) (a0 : List Int) (za0 : Nat) (a1 : Int) (a2 : Int) (a3 : Int) (pa0 : Nat) (fs : List (Nat × AObj)) (ts : List Tail) (H0 H : AHeap) (K : AV → AHeap → Prop) (r : (List Int)) (hg : g112 n a0 za0 a1 a2 a3 = some r) (hE : Ext H0 H) (g_pa0 : H0.length ≤ pa0) (f_pa0 : H[pa0]? = some (.cells (List.map (AV.int .i64) a0))) (nf_pa0 : Nf fs pa0) (hfo : FrObj H fs) (hft : FrTl H0 H ts) (hK : ∀ (H' : AHeap), Ext H0 H' → H'[pa0]? = some (.cells (List.map (AV.int .i64) r)) → FrObj H' fs → FrTl H0 H' ts → K (.tup []) H') : ACall Tryz.prog B w0 112 [.sl 1 pa0 0 za0, .int .i64 a1, .int .i64 a2, .int .i64 a3] H K := by
 unfold g112 at hg
 refine ACall.enter Tryz.func112 (by kernel_rfl) rfl (eawp_sound noY_sound _ _ _ _ ?_)
 simp only [EVA, reduceIte, reduceCtorEq, Tryz.ntmps112, rs112, f_pa0]
 refine AWP.loop (σ := Nat) (fun s => [.sl 1 pa0 0 za0, .int .i64 a1, .int .i64 a2, .int .i64 a3, .undef, .undef, .undef, .undef, .bool true, .bool true, .undef, .undef, .undef, .undef, .undef, .undef, .undef, .undef, .undef, .undef, .undef, .undef, .undef, .undef, .undef, .undef, .undef, .undef, .undef, .undef, .undef, .undef, .undef, .undef, .undef, .undef, .undef, .undef, .undef, .undef, .undef, .undef, .undef, .undef, .undef, .undef, .undef, .undef, .undef, .undef, .undef, .undef, .undef, .undef, .undef, .undef, .undef, .undef, .undef, .undef, .undef, .undef, .undef, .undef, .undef, .undef, .undef, .undef, .undef, .undef, .undef, .undef, .undef, .undef, .undef, .undef, .undef, .undef, .undef, .undef, .undef, .undef, .undef, .undef, .undef, .undef, .undef, .undef, .undef, .undef, .undef, .undef, .undef, .undef, .undef, .undef, .undef, .undef, .undef, .undef, .undef, .undef, .undef, .undef, .undef, .undef, .undef, .undef, .undef, .undef, .undef, .undef, .undef, .undef, .undef, .undef, .undef, .undef, .undef, .undef, .undef, .undef, .undef, .undef, .undef, .undef, .undef, .undef, .undef, .undef, .undef, .undef, .undef, .undef]) (fun s H' => l112_0 n a0 za0 a1 a2 a3 s = some r ∧ SameH H H') (fun s => s) ⟨n, (by repeat' first | exact Wk.nil | apply Wk.u | apply Wk.r), ⟨hg, (rfl : SameH _ _)⟩⟩ ?_
 rintro k1 H2 ⟨hg, hH9⟩ _
 unfold SameH at hH9
 subst hH9
 try dsimp only at hg
 cases k1 with
 | zero => simp only [l112_0, reduceCtorEq] at hg
 | succ k1 =>
  rw [l112_0] at hg
  refine eawp_sound noY_sound _ _ _ _ ?_
  simp only [EVA, reduceIte, reduceCtorEq, f_pa0]
  rcases ite_some hg with ⟨h3, hg⟩ | ⟨h3, hg⟩
  ·refine Br.yes h3 ?_
   simp only [EVA, reduceIte, reduceCtorEq, eq_true h3, f_pa0]
   obtain ⟨v4, ch5, hg⟩ := bind_some hg
   refine ACall.wkA (args := [.sl 1 pa0 0 za0, .int .i64 a1, .int .i64 a2]) (c120 B w0 n a0 za0 a1 a2 pa0 (fs) (ts) H0 _ _ v4 ch5 hE g_pa0 f_pa0 nf_pa0 hfo hft ?_) (WkA.r (WkA.r (WkA.r WkA.nil)))
   intro H6 hE f9_pa0 hfo9 hft9
   have f_pa0 : H6[pa0]? = some (.cells (List.map (AV.int .i64) v4)) := f9_pa0
   have hfo := hfo9
   have hft := hft9
   simp only [EVA, reduceIte, reduceCtorEq, rs112, eq_true h3, f_pa0]
   obtain rfl := Option.some.inj hg
   exact (hK  _ hE f_pa0 hfo hft)
  ·refine Br.no h3 ?_
   simp only [EVA, reduceIte, reduceCtorEq, eq_false h3, f_pa0]
   rcases ite_some hg with ⟨h7, hg⟩ | ⟨h7, hg⟩
   ·refine Br.yes h7 ?_
    cases hg
   ·refine Br.no h7 ?_
    cases hg
/-- slices.Sort[[]int,int] -/
theorem rs91 : Tryz.f91.results.toList = [] := rfl
def g91 (n : Nat) (a0 : List Int) (za0 : Nat) : Option (List Int) := (g89 n (IntKind.u64.wrap ((za0 : Nat) : Int))).bind fun v1 => (g112 n a0 za0 0 ((za0 : Nat) : Int) v1).bind fun v3 => some v3
theorem c91 (B : Nat) (w0 : World) (n : Nat) (a0 : List Int) (za0 : Nat) (pa0 : Nat) (fs : List (Nat × AObj)) (ts : List Tail) (H0 H : AHeap) (K : AV → AHeap → Prop) (r : (List Int)) (hg : g91 n a0 za0 = some r) (hE : Ext H0 H) (g_pa0 : H0.length ≤ pa0) (f_pa0 : H[pa0]? = some (.cells (List.map (AV.int .i64) a0))) (nf_pa0 : Nf fs pa0) (hfo : FrObj H fs) (hft : FrTl H0 H ts) (hK : ∀ (H' : AHeap), Ext H0 H' → H'[pa0]? = some (.cells (List.map (AV.int .i64) r)) → FrObj H' fs → FrTl H0 H' ts → K (.tup []) H') : ACall Tryz.prog B w0 91 [.sl 1 pa0 0 za0] H K := by
 unfold g91 at hg
 refine ACall.enter Tryz.func91 (by kernel_rfl) rfl (eawp_sound noY_sound _ _ _ _ ?_)
 simp only [EVA, reduceIte, reduceCtorEq, Tryz.ntmps91, rs91, f_pa0]
 obtain ⟨v1, ch2, hg⟩ := bind_some hg
 refine ACall.wkA (args := [.int .u64 (IntKind.u64.wrap ((za0 : Nat) : Int))]) (c89 B w0 n (IntKind.u64.wrap ((za0 : Nat) : Int)) _ _ v1 ch2  ?_) (WkA.r WkA.nil)
 simp only [EVA, reduceIte, reduceCtorEq, f_pa0]
 obtain ⟨v3, ch4, hg⟩ := bind_some hg
 refine ACall.wkA (args := [.sl 1 pa0 0 za0, .int .i64 0, .int .i64 ((za0 : Nat) : Int), .int .i64 v1]) (c112 B w0 n a0 za0 0 ((za0 : Nat) : Int) v1 pa0 (fs) (ts) H0 _ _ v3 ch4 hE g_pa0 f_pa0 nf_pa0 hfo hft ?_) (WkA.r (WkA.r (WkA.r (WkA.r WkA.nil))))
 intro H5 hE f9_pa0 hfo9 hft9
 have f_pa0 : H5[pa0]? = some (.cells (List.map (AV.int .i64) v3)) := f9_pa0
 have hfo := hfo9
 have hft := hft9
 simp only [EVA, reduceIte, reduceCtorEq, rs91, f_pa0]
 obtain rfl := Option.some.inj hg
 exact (hK  _ hE f_pa0 hfo hft)
/-- slices.Compact[[]int,int] -/
def l92_1 (n : Nat) (za0 : Nat) (x2 : Int) : Nat → Int → Int → List Int → Option (Nat × List Int)
 | 0, _, _, _ => none
 | k17 + 1, x14, x15, x16 => if x15 < ((za0 - (Int.toNat x2) : Nat) : Int) then (if (0 : Int) ≤ x15 ∧ x15 < ((za0 - (Int.toNat x2) : Nat) : Int) then (if (Int.toNat x2 + (Int.toNat x15)) < x16.length then (if (0 : Int) ≤ (IntKind.i64.wrap (x15 - 1)) ∧ (IntKind.i64.wrap (x15 - 1)) < ((za0 - (Int.toNat x2) : Nat) : Int) then (if (Int.toNat x2 + (Int.toNat (IntKind.i64.wrap (x15 - 1)))) < x16.length then (if (rdn x16 (Int.toNat x2 + (Int.toNat x15))) = (rdn x16 (Int.toNat x2 + (Int.toNat (IntKind.i64.wrap (x15 - 1))))) then ((l92_1 n za0 x2 k17) x14 (IntKind.i64.wrap (x15 + 1)) x16) else (if (0 : Int) ≤ x15 ∧ x15 < ((za0 - (Int.toNat x2) : Nat) : Int) then (if (Int.toNat x2 + (Int.toNat x15)) < x16.length then (if (0 : Int) ≤ x14 ∧ x14 < ((za0 : Nat) : Int) then (if (Int.toNat x14) < x16.length then ((l92_1 n za0 x2 k17) (IntKind.i64.wrap (x14 + 1)) (IntKind.i64.wrap (x15 + 1)) (List.set x16 (Int.toNat x14) (rdn x16 (Int.toNat x2 + (Int.toNat x15))))) else none) else none) else none) else none)) else none) else none) else none) else none) else (if 0 ≤ x14 ∧ (Int.toNat x14 ≤ za0 ∧ za0 ≤ za0) ∧ ¬ (Int.toNat x14 = za0 ∧ ¬ Int.toNat x14 = 0) then (if (Int.toNat x14) + (za0 - (Int.toNat x14)) ≤ x16.length then (if 0 ≤ x14 ∧ (0 ≤ Int.toNat x14 ∧ Int.toNat x14 ≤ za0) then (some (Int.toNat x14, List.take (Int.toNat x14) x16 ++ List.replicate (za0 - (Int.toNat x14)) 0 ++ List.drop ((Int.toNat x14) + (za0 - (Int.toNat x14))) x16)) else none) else none) else none)
def l92_0 (n : Nat) (a0 : List Int) (za0 : Nat) : Nat → Int → Option (Nat × List Int)
 | 0, _ => none
 | k3 + 1, x2 => if x2 < ((za0 : Nat) : Int) then (if (0 : Int) ≤ x2 ∧ x2 < ((za0 : Nat) : Int) then (if (Int.toNat x2) < a0.length then (if (0 : Int) ≤ (IntKind.i64.wrap (x2 - 1)) ∧ (IntKind.i64.wrap (x2 - 1)) < ((za0 : Nat) : Int) then (if (Int.toNat (IntKind.i64.wrap (x2 - 1))) < a0.length then (if (rdn a0 (Int.toNat x2)) = (rdn a0 (Int.toNat (IntKind.i64.wrap (x2 - 1)))) then (if 0 ≤ x2 ∧ (Int.toNat x2 ≤ za0 ∧ za0 ≤ za0) ∧ ¬ (Int.toNat x2 = za0 ∧ ¬ Int.toNat x2 = 0) then (l92_1 n za0 x2 n x2 1 a0) else none) else ((l92_0 n a0 za0 k3) (IntKind.i64.wrap (x2 + 1)))) else none) else none) else none) else none) else (some (za0, a0))
theorem rs92 : Tryz.f92.results.toList = [.tmp 2] := rfl
def g92 (n : Nat) (a0 : List Int) (za0 : Nat) : Option (Nat × List Int) := if ((za0 : Nat) : Int) < 2 then (some (za0, a0)) else (l92_0 n a0 za0 n 1)
theorem c92 (B : Nat) (w0 : World) (n : Nat) (a0 : List Int) (za0 : Nat) (pa0 : Nat) (fs : List (Nat × AObj)) (ts : List Tail) (H0 H : AHeap) (K : AV → AHeap → Prop) (r : (Nat × List Int)) (hg : g92 n a0 za0 = some r) (hE : Ext H0 H) (g_pa0 : H0.length ≤ pa0) (f_pa0 : H[pa0]? = some (.cells (List.map (AV.int .i64) a0))) (nf_pa0 : Nf fs pa0) (hfo : FrObj H fs) (hft : FrTl H0 H ts) (hK : ∀ (H' : AHeap), Ext H0 H' → H'[pa0]? = some (.cells (List.map (AV.int .i64) r.2)) → FrObj H' fs → FrTl H0 H' ts → K (.sl 1 pa0 0 r.1) H') : ACall Tryz.prog B w0 92 [.sl 1 pa0 0 za0] H K := by
 unfold g92 at hg
 refine ACall.enter Tryz.func92 (by kernel_rfl) rfl (eawp_sound noY_sound _ _ _ _ ?_)
 simp only [EVA, reduceIte, reduceCtorEq, Tryz.ntmps92, rs92, f_pa0, (show IntKind.i64.wrap 0 = 0 from rfl), (show IntKind.i64.wrap 2 = 2 from rfl)]
 rcases ite_some hg with ⟨h1, hg⟩ | ⟨h1, hg⟩
 ·refine Br.yes h1 ?_
  simp only [EVA, reduceIte, reduceCtorEq, rs92, eq_true h1, f_pa0, (show IntKind.i64.wrap 0 = 0 from rfl), (show IntKind.i64.wrap 2 = 2 from rfl)]
  obtain rfl := Option.some.inj hg
  exact (hK  _ hE f_pa0 hfo hft)
 ·refine Br.no h1 ?_
  simp only [EVA, reduceIte, reduceCtorEq, eq_false h1, f_pa0, (show IntKind.i64.wrap 0 = 0 from rfl), (show IntKind.i64.wrap 2 = 2 from rfl)]
  refine AWP.loop (σ := Nat × Int) (fun s => [.sl 1 pa0 0 za0, .undef, .undef, .int .i64 s.2, .undef, .undef, .undef, .undef, .undef, .undef, .undef, .undef, .undef, .undef, .undef, .undef, .undef, .undef, .undef, .undef, .undef, .undef, .undef, .undef, .undef, .undef, .undef, .undef, .undef, .undef, .undef, .undef, .undef, .undef, .undef, .undef, .undef, .undef, .undef, .undef, .undef, .undef, .undef, .undef, .undef, .undef, .undef, .undef, .undef, .undef, .undef, .undef, .undef, .undef, .undef, .undef, .undef, .undef, .undef, .undef, .undef]) (fun s H' => l92_0 n a0 za0 s.1 s.2 = some r ∧ SameH H H') (fun s => s.1) ⟨⟨n, 1⟩, (by repeat' first | exact Wk.nil | apply Wk.u | apply Wk.r), ⟨hg, (rfl : SameH _ _)⟩⟩ ?_
  rintro ⟨k3, x2⟩ H4 ⟨hg, hH9⟩ _
  unfold SameH at hH9
  subst hH9
  try dsimp only at hg
  cases k3 with
  | zero => simp only [l92_0, reduceCtorEq] at hg
  | succ k3 =>
   rw [l92_0] at hg
   refine eawp_sound noY_sound _ _ _ _ ?_
   simp only [EVA, reduceIte, reduceCtorEq, eq_false h1, f_pa0, (show IntKind.i64.wrap 0 = 0 from rfl), (show IntKind.i64.wrap 2 = 2 from rfl)]
   rcases ite_some hg with ⟨h5, hg⟩ | ⟨h5, hg⟩
   ·refine Br.yes h5 ?_
    simp only [EVA, reduceIte, reduceCtorEq, eq_false h1, eq_true h5, f_pa0, (show IntKind.i64.wrap 0 = 0 from rfl), (show IntKind.i64.wrap 2 = 2 from rfl)]
    refine AWP.draw noY_sound [[], [], [0, 1], [0, 1, 2], [], [], [5], [4, 5, 6], [4, 5, 6, 7], [0, 1, 2, 3, 4, 5, 6, 7, 8]] [⟨0, false, []⟩, ⟨1, false, []⟩, ⟨2, false, []⟩, ⟨3, false, []⟩, ⟨4, false, []⟩, ⟨5, false, []⟩, ⟨6, false, []⟩, ⟨7, false, []⟩, ⟨8, false, []⟩, ⟨9, false, []⟩] [0, 1, 2, 3, 4, 5, 6, 7, 8, 9] [0, 1, 2, 3, 4, 5, 6, 7, 8, 9] (by kernel_rfl) ?_
    obtain ⟨h6, hg⟩ := guard_some hg
    obtain ⟨h7, hg⟩ := guard_some hg
    have q8 := rdn_map (AV.int .i64) h7
    obtain ⟨h9, hg⟩ := guard_some hg
    obtain ⟨h10, hg⟩ := guard_some hg
    have q11 := rdn_map (AV.int .i64) h10
    simp only [EVA, reduceIte, reduceCtorEq, eq_false h1, eq_true h5, eq_true h6.1, eq_true h6.2, q8, eq_true h9.1, eq_true h9.2, q11, f_pa0, (show IntKind.i64.wrap 0 = 0 from rfl), (show IntKind.i64.wrap 2 = 2 from rfl)]
    rcases ite_some hg with ⟨h12, hg⟩ | ⟨h12, hg⟩
    ·refine Br.yes h12 ?_
     obtain ⟨h13, hg⟩ := guard_some hg
     simp only [EVA, reduceIte, reduceCtorEq, eq_false h1, eq_true h5, eq_true h6.1, eq_true h6.2, q8, eq_true h9.1, eq_true h9.2, q11, eq_true h12, eq_true h13.1, eq_true h13.2.1.1, eq_true h13.2.1.2, if_neg h13.2.2, f_pa0, (show IntKind.i64.wrap 0 = 0 from rfl), (show IntKind.i64.wrap 2 = 2 from rfl)]
     refine AWP.loop (σ := Nat × Int × Int × List Int) (fun s => [.sl 1 pa0 0 za0, .undef, .undef, .int .i64 s.2.1, .sl 1 pa0 (Int.toNat x2) (za0 - (Int.toNat x2)), .int .i64 s.2.2.1, .undef, .undef, .undef, .undef, .undef, .undef, .undef, .undef, .undef, .undef, .undef, .undef, .undef, .undef, .undef, .undef, .undef, .undef, .undef, .undef, .undef, .undef, .undef, .undef, .undef, .undef, .undef, .undef, .undef, .undef, .undef, .undef, .undef, .undef, .undef, .undef, .undef, .undef, .undef, .undef, .undef, .undef, .undef, .undef, .undef, .undef, .undef, .undef, .undef, .undef, .undef, .undef, .undef, .undef, .undef]) (fun s H' => l92_1 n za0 x2 s.1 s.2.1 s.2.2.1 s.2.2.2 = some r ∧ Ext H0 H' ∧ ObjAt H' pa0 (List.map (AV.int .i64) s.2.2.2) ∧ FrObj H' fs ∧ FrTl H0 H' ts) (fun s => s.1) ⟨⟨n, x2, 1, a0⟩, (by repeat' first | exact Wk.nil | apply Wk.u | apply Wk.r), ⟨hg, hE, f_pa0, hfo, hft⟩⟩ ?_
     rintro ⟨k17, x14, x15, x16⟩ H18 ⟨hg, hE, f9_pa0, hfo, hft⟩ _
     have f_pa0 : H18[pa0]? = some (.cells (List.map (AV.int .i64) x16)) := f9_pa0
     clear f9_pa0
     try dsimp only at hg
     cases k17 with
     | zero => simp only [l92_1, reduceCtorEq] at hg
     | succ k17 =>
      rw [l92_1] at hg
      refine eawp_sound noY_sound _ _ _ _ ?_
      simp only [EVA, reduceIte, reduceCtorEq, eq_false h1, eq_true h5, eq_true h6.1, eq_true h6.2, q8, eq_true h9.1, eq_true h9.2, q11, eq_true h12, eq_true h13.1, eq_true h13.2.1.1, eq_true h13.2.1.2, if_neg h13.2.2, f_pa0, (show IntKind.i64.wrap 0 = 0 from rfl), (show IntKind.i64.wrap 2 = 2 from rfl)]
      rcases ite_some hg with ⟨h19, hg⟩ | ⟨h19, hg⟩
      ·refine Br.yes h19 ?_
       simp only [EVA, reduceIte, reduceCtorEq, eq_false h1, eq_true h5, eq_true h6.1, eq_true h6.2, q8, eq_true h9.1, eq_true h9.2, q11, eq_true h12, eq_true h13.1, eq_true h13.2.1.1, eq_true h13.2.1.2, if_neg h13.2.2, eq_true h19, f_pa0, (show IntKind.i64.wrap 0 = 0 from rfl), (show IntKind.i64.wrap 2 = 2 from rfl)]
       refine AWP.draw noY_sound [[], [], [0, 1], [0, 1, 2], [], [], [5], [4, 5, 6], [4, 5, 6, 7], [0, 1, 2, 3, 4, 5, 6, 7, 8]] [⟨0, false, []⟩, ⟨1, false, []⟩, ⟨2, false, []⟩, ⟨3, false, []⟩, ⟨4, false, []⟩, ⟨5, false, []⟩, ⟨6, false, []⟩, ⟨7, false, []⟩, ⟨8, false, []⟩, ⟨9, false, []⟩] [0, 1, 2, 3, 4, 5, 6, 7, 8, 9] [0, 1, 2, 3, 4, 5, 6, 7, 8, 9] (by kernel_rfl) ?_
       obtain ⟨h20, hg⟩ := guard_some hg
       obtain ⟨h21, hg⟩ := guard_some hg
       have q22 := rdn_map (AV.int .i64) h21
       obtain ⟨h23, hg⟩ := guard_some hg
       obtain ⟨h24, hg⟩ := guard_some hg
       have q25 := rdn_map (AV.int .i64) h24
       simp only [EVA, reduceIte, reduceCtorEq, eq_false h1, eq_true h5, eq_true h6.1, eq_true h6.2, q8, eq_true h9.1, eq_true h9.2, q11, eq_true h12, eq_true h13.1, eq_true h13.2.1.1, eq_true h13.2.1.2, if_neg h13.2.2, eq_true h19, eq_true h20.1, eq_true h20.2, q22, eq_true h23.1, eq_true h23.2, q25, f_pa0, (show IntKind.i64.wrap 0 = 0 from rfl), (show IntKind.i64.wrap 2 = 2 from rfl)]
       rcases ite_some hg with ⟨h26, hg⟩ | ⟨h26, hg⟩
       ·refine Br.yes h26 ?_
        simp only [EVA, reduceIte, reduceCtorEq, eq_false h1, eq_true h5, eq_true h6.1, eq_true h6.2, q8, eq_true h9.1, eq_true h9.2, q11, eq_true h12, eq_true h13.1, eq_true h13.2.1.1, eq_true h13.2.1.2, if_neg h13.2.2, eq_true h19, eq_true h20.1, eq_true h20.2, q22, eq_true h23.1, eq_true h23.2, q25, eq_true h26, f_pa0, (show IntKind.i64.wrap 0 = 0 from rfl), (show IntKind.i64.wrap 2 = 2 from rfl)]
        exact ⟨⟨k17, x14, IntKind.i64.wrap (x15 + 1), x16⟩, (by repeat' first | exact Wk.nil | apply Wk.u | apply Wk.r), ⟨hg, hE, f_pa0, hfo, hft⟩, Nat.lt_succ_self _⟩
       ·refine Br.no h26 ?_
        obtain ⟨h27, hg⟩ := guard_some hg
        obtain ⟨h28, hg⟩ := guard_some hg
        have q29 := rdn_map (AV.int .i64) h28
        obtain ⟨h30, hg⟩ := guard_some hg
        simp only [EVA, reduceIte, reduceCtorEq, eq_false h1, eq_true h5, eq_true h6.1, eq_true h6.2, q8, eq_true h9.1, eq_true h9.2, q11, eq_true h12, eq_true h13.1, eq_true h13.2.1.1, eq_true h13.2.1.2, if_neg h13.2.2, eq_true h19, eq_true h20.1, eq_true h20.2, q22, eq_true h23.1, eq_true h23.2, q25, eq_false h26, eq_true h27.1, eq_true h27.2, q29, eq_true h30.1, eq_true h30.2, f_pa0, (show IntKind.i64.wrap 0 = 0 from rfl), (show IntKind.i64.wrap 2 = 2 from rfl)]
        obtain ⟨h33, hg⟩ := guard_some hg
        refine eop_storeL_go (H0 := H0) (id := pa0) (off := (Int.toNat x14)) (AV.int .i64) (l := x16) (v := rdn x16 (Int.toNat x2 + (Int.toNat x15))) rfl rfl f_pa0 ty3 rfl rfl rfl h33 hE g_pa0 ?_
        intro H31 hE f9_pa0 p32 l9
        have hft := hft.keep f_pa0 p32
        have hfo := hfo.keep nf_pa0 p32
        have f_pa0 : H31[pa0]? = some (.cells (List.map (AV.int .i64) (List.set x16 (Int.toNat x14) (rdn x16 (Int.toNat x2 + (Int.toNat x15)))))) := f9_pa0
        simp only [EVA, reduceIte, reduceCtorEq, eq_false h1, eq_true h5, eq_true h6.1, eq_true h6.2, q8, eq_true h9.1, eq_true h9.2, q11, eq_true h12, eq_true h13.1, eq_true h13.2.1.1, eq_true h13.2.1.2, if_neg h13.2.2, eq_true h19, eq_true h20.1, eq_true h20.2, q22, eq_true h23.1, eq_true h23.2, q25, eq_false h26, eq_true h27.1, eq_true h27.2, q29, eq_true h30.1, eq_true h30.2, f_pa0, (show IntKind.i64.wrap 0 = 0 from rfl), (show IntKind.i64.wrap 2 = 2 from rfl)]
        exact ⟨⟨k17, IntKind.i64.wrap (x14 + 1), IntKind.i64.wrap (x15 + 1), List.set x16 (Int.toNat x14) (rdn x16 (Int.toNat x2 + (Int.toNat x15)))⟩, (by repeat' first | exact Wk.nil | apply Wk.u | apply Wk.r), ⟨hg, hE, f_pa0, hfo, hft⟩, Nat.lt_succ_self _⟩
      ·refine Br.no h19 ?_
       obtain ⟨h34, hg⟩ := guard_some hg
       simp only [EVA, reduceIte, reduceCtorEq, eq_false h1, eq_true h5, eq_true h6.1, eq_true h6.2, q8, eq_true h9.1, eq_true h9.2, q11, eq_true h12, eq_true h13.1, eq_true h13.2.1.1, eq_true h13.2.1.2, if_neg h13.2.2, eq_false h19, eq_true h34.1, eq_true h34.2.1.1, eq_true h34.2.1.2, if_neg h34.2.2, f_pa0, (show IntKind.i64.wrap 0 = 0 from rfl), (show IntKind.i64.wrap 2 = 2 from rfl)]
       obtain ⟨h37, hg⟩ := guard_some hg
       refine clrL_go (H0 := H0) (off := Int.toNat x14) (len := za0 - (Int.toNat x14)) (AV.int .i64) (l := x16) (zv := 0) ty22 rfl ty3 rfl rfl rfl rfl rfl f_pa0 h37 hE g_pa0 ?_
       intro H35 hE f9_pa0 p36 l9
       have hft := hft.keep f_pa0 p36
       have hfo := hfo.keep nf_pa0 p36
       have f_pa0 : H35[pa0]? = some (.cells (List.map (AV.int .i64) (List.take (Int.toNat x14) x16 ++ List.replicate (za0 - (Int.toNat x14)) 0 ++ List.drop ((Int.toNat x14) + (za0 - (Int.toNat x14))) x16))) := f9_pa0
       obtain ⟨h38, hg⟩ := guard_some hg
       simp only [EVA, reduceIte, reduceCtorEq, rs92, eq_false h1, eq_true h5, eq_true h6.1, eq_true h6.2, q8, eq_true h9.1, eq_true h9.2, q11, eq_true h12, eq_true h13.1, eq_true h13.2.1.1, eq_true h13.2.1.2, if_neg h13.2.2, eq_false h19, eq_true h34.1, eq_true h34.2.1.1, eq_true h34.2.1.2, if_neg h34.2.2, eq_true h38.1, eq_true h38.2.1, eq_true h38.2.2, f_pa0, (show IntKind.i64.wrap 0 = 0 from rfl), (show IntKind.i64.wrap 2 = 2 from rfl)]
       obtain rfl := Option.some.inj hg
       exact (hK  _ hE f_pa0 hfo hft)
    ·refine Br.no h12 ?_
     simp only [EVA, reduceIte, reduceCtorEq, eq_false h1, eq_true h5, eq_true h6.1, eq_true h6.2, q8, eq_true h9.1, eq_true h9.2, q11, eq_false h12, f_pa0, (show IntKind.i64.wrap 0 = 0 from rfl), (show IntKind.i64.wrap 2 = 2 from rfl)]
     exact ⟨⟨k3, IntKind.i64.wrap (x2 + 1)⟩, (by repeat' first | exact Wk.nil | apply Wk.u | apply Wk.r), ⟨hg, (rfl : SameH _ _)⟩, Nat.lt_succ_self _⟩
   ·refine Br.no h5 ?_
    simp only [EVA, reduceIte, reduceCtorEq, rs92, eq_false h1, eq_false h5, f_pa0, (show IntKind.i64.wrap 0 = 0 from rfl), (show IntKind.i64.wrap 2 = 2 from rfl)]
    obtain rfl := Option.some.inj hg
    exact (hK  _ hE f_pa0 hfo hft)
/-- slices.insertionSortOrdered[int] -/
def l120_0_0 (n : Nat) : Nat → Option Unit
 | 0 => none
 | k1 + 1 => some ()
theorem rs120_0 : Tryz.f120.results.toList = [] := rfl
def g120_0 (n : Nat)  : Option Unit := l120_0_0 n n 
theorem c120_0 (B : Nat) (w0 : World) (n : Nat)  (H : AHeap) (K : AV → AHeap → Prop) (r : Unit) (hg : g120_0 n  = some r)  (hK : K (.tup []) H) : ACall Tryz.prog B w0 120 [.dl 0 [] .full, .int .i64 0, .int .i64 0] H K := by
 unfold g120_0 at hg
 refine ACall.enter Tryz.func120 (by kernel_rfl) rfl (eawp_sound noY_sound _ _ _ _ ?_)
 have hE : Ext H H := Ext.refl H
 simp only [EVA, reduceIte, reduceCtorEq, Nat.reduceLT, Nat.reduceLeDiff, Int.reduceEq, Int.reduceLT, Int.reduceLE, Nat.reduceMul, Tryz.ntmps120, rs120_0, (show IntKind.i64.wrap 1 = 1 from rfl)]
 refine AWP.loop (σ := Nat) (fun s => [.dl 0 [] .full, .int .i64 0, .int .i64 0, .undef, .undef, .undef, .int .i64 1, .undef, .undef, .undef, .undef, .undef, .undef, .undef, .undef, .undef, .undef, .undef, .undef, .undef, .undef, .undef, .undef, .undef, .undef, .undef, .undef, .undef, .undef, .undef, .undef, .undef, .undef, .undef, .undef, .undef, .undef, .undef, .undef, .undef, .undef, .undef, .undef, .undef, .undef, .undef, .undef, .undef, .undef]) (fun s H' => l120_0_0 n s = some r ∧ SameH H H') (fun s => s) ⟨n, (by repeat' first | exact Wk.nil | apply Wk.u | apply Wk.r), ⟨hg, (rfl : SameH _ _)⟩⟩ ?_
 rintro k1 H2 ⟨hg, hH9⟩ _
 unfold SameH at hH9
 subst hH9
 try dsimp only at hg
 cases k1 with
 | zero => simp only [l120_0_0, reduceCtorEq] at hg
 | succ k1 =>
  rw [l120_0_0] at hg
  refine eawp_sound noY_sound _ _ _ _ ?_
  simp only [EVA, reduceIte, reduceCtorEq, Nat.reduceLT, Nat.reduceLeDiff, Int.reduceEq, Int.reduceLT, Int.reduceLE, Nat.reduceMul, rs120_0, (show IntKind.i64.wrap 1 = 1 from rfl)]
  exact hK
/-- slices.pdqsortOrdered[int] -/
def l112_0_0 (n : Nat) : Nat → Option Unit
 | 0 => none
 | k1 + 1 => (g120_0 n ).bind fun v3 => some ()
theorem rs112_0 : Tryz.f112.results.toList = [] := rfl
def g112_0 (n : Nat) (a3 : Int) : Option Unit := l112_0_0 n n 
theorem c112_0 (B : Nat) (w0 : World) (n : Nat) (a3 : Int) (H : AHeap) (K : AV → AHeap → Prop) (r : Unit) (hg : g112_0 n a3 = some r)  (hK : K (.tup []) H) : ACall Tryz.prog B w0 112 [.dl 0 [] .full, .int .i64 0, .int .i64 0, .int .i64 a3] H K := by
 unfold g112_0 at hg
 refine ACall.enter Tryz.func112 (by kernel_rfl) rfl (eawp_sound noY_sound _ _ _ _ ?_)
 have hE : Ext H H := Ext.refl H
 simp only [EVA, Nat.reduceAdd, Nat.reduceMul, Nat.reduceSub, Nat.reduceLeDiff, Nat.reduceLT, Nat.reduceBEq, Nat.reduceEqDiff, reduceIte, reduceCtorEq, Int.reduceLT, Int.reduceLE, Int.reduceToNat, Int.reducePow, Nat.reducePow, Int.reduceAdd, Int.reduceSub, Int.reduceNeg, Int.reduceEq, String.reduceEq, Tryz.ntmps112, rs112_0, (show IntKind.i64.wrap 0 = 0 from rfl)]
 refine AWP.loop (σ := Nat) (fun s => [.dl 0 [] .full, .int .i64 0, .int .i64 0, .int .i64 a3, .undef, .undef, .undef, .undef, .bool true, .bool true, .undef, .undef, .undef, .undef, .undef, .undef, .undef, .undef, .undef, .undef, .undef, .undef, .undef, .undef, .undef, .undef, .undef, .undef, .undef, .undef, .undef, .undef, .undef, .undef, .undef, .undef, .undef, .undef, .undef, .undef, .undef, .undef, .undef, .undef, .undef, .undef, .undef, .undef, .undef, .undef, .undef, .undef, .undef, .undef, .undef, .undef, .undef, .undef, .undef, .undef, .undef, .undef, .undef, .undef, .undef, .undef, .undef, .undef, .undef, .undef, .undef, .undef, .undef, .undef, .undef, .undef, .undef, .undef, .undef, .undef, .undef, .undef, .undef, .undef, .undef, .undef, .undef, .undef, .undef, .undef, .undef, .undef, .undef, .undef, .undef, .undef, .undef, .undef, .undef, .undef, .undef, .undef, .undef, .undef, .undef, .undef, .undef, .undef, .undef, .undef, .undef, .undef, .undef, .undef, .undef, .undef, .undef, .undef, .undef, .undef, .undef, .undef, .undef, .undef, .undef, .undef, .undef, .undef, .undef, .undef, .undef, .undef, .undef, .undef]) (fun s H' => l112_0_0 n s = some r ∧ SameH H H') (fun s => s) ⟨n, (by repeat' first | exact Wk.nil | apply Wk.u | apply Wk.r), ⟨hg, (rfl : SameH _ _)⟩⟩ ?_
 rintro k1 H2 ⟨hg, hH9⟩ _
 unfold SameH at hH9
 subst hH9
 try dsimp only at hg
 cases k1 with
 | zero => simp only [l112_0_0, reduceCtorEq] at hg
 | succ k1 =>
  rw [l112_0_0] at hg
  refine eawp_sound noY_sound _ _ _ _ ?_
  simp only [EVA, Nat.reduceAdd, Nat.reduceMul, Nat.reduceSub, Nat.reduceLeDiff, Nat.reduceLT, Nat.reduceBEq, Nat.reduceEqDiff, reduceIte, reduceCtorEq, Int.reduceLT, Int.reduceLE, Int.reduceToNat, Int.reducePow, Nat.reducePow, Int.reduceAdd, Int.reduceSub, Int.reduceNeg, Int.reduceEq, String.reduceEq, (show IntKind.i64.wrap 0 = 0 from rfl)]
  obtain ⟨v3, ch4, hg⟩ := bind_some hg
  refine ACall.wkA (args := [.dl 0 [] .full, .int .i64 0, .int .i64 0]) (c120_0 B w0 n  _ _ v3 ch4  ?_) (WkA.r (WkA.r (WkA.r WkA.nil)))
  simp only [EVA, Nat.reduceAdd, Nat.reduceMul, Nat.reduceSub, Nat.reduceLeDiff, Nat.reduceLT, Nat.reduceBEq, Nat.reduceEqDiff, reduceIte, reduceCtorEq, Int.reduceLT, Int.reduceLE, Int.reduceToNat, Int.reducePow, Nat.reducePow, Int.reduceAdd, Int.reduceSub, Int.reduceNeg, Int.reduceEq, String.reduceEq, rs112_0, (show IntKind.i64.wrap 0 = 0 from rfl)]
  exact hK
/-- slices.Sort[[]int,int] -/
theorem rs91_0 : Tryz.f91.results.toList = [] := rfl
def g91_0 (n : Nat)  : Option Unit := (g89 n 0).bind fun v1 => (g112_0 n v1).bind fun v3 => some ()
theorem c91_0 (B : Nat) (w0 : World) (n : Nat)  (H : AHeap) (K : AV → AHeap → Prop) (r : Unit) (hg : g91_0 n  = some r)  (hK : K (.tup []) H) : ACall Tryz.prog B w0 91 [.dl 0 [] .full] H K := by
 unfold g91_0 at hg
 refine ACall.enter Tryz.func91 (by kernel_rfl) rfl (eawp_sound noY_sound _ _ _ _ ?_)
 have hE : Ext H H := Ext.refl H
 simp only [EVA, reduceIte, reduceCtorEq, Tryz.ntmps91, rs91_0, (show IntKind.u64.wrap 0 = 0 from rfl)]
 obtain ⟨v1, ch2, hg⟩ := bind_some hg
 refine ACall.wkA (args := [.int .u64 0]) (c89 B w0 n 0 _ _ v1 ch2  ?_) (WkA.r WkA.nil)
 simp only [EVA, reduceIte, reduceCtorEq, (show IntKind.u64.wrap 0 = 0 from rfl)]
 obtain ⟨v3, ch4, hg⟩ := bind_some hg
 refine ACall.wkA (args := [.dl 0 [] .full, .int .i64 0, .int .i64 0, .int .i64 v1]) (c112_0 B w0 n v1 _ _ v3 ch4  ?_) (WkA.r (WkA.r (WkA.r (WkA.r WkA.nil))))
 simp only [EVA, reduceIte, reduceCtorEq, rs91_0, (show IntKind.u64.wrap 0 = 0 from rfl)]
 exact hK
/-- slices.Compact[[]int,int] -/
theorem rs92_0 : Tryz.f92.results.toList = [.tmp 2] := rfl
def g92_0 (n : Nat)  : Option (List Int) := some ([] : List Int)
theorem c92_0 (B : Nat) (w0 : World) (n : Nat)  (H : AHeap) (K : AV → AHeap → Prop) (r : (List Int)) (hg : g92_0 n  = some r)  (hK : K (.dl 1 (List.map (AV.int .i64) r) .full) H) : ACall Tryz.prog B w0 92 [.dl 0 [] .full] H K := by
 refine ACall.wkR ?_
 unfold g92_0 at hg
 refine ACall.enter Tryz.func92 (by kernel_rfl) rfl (eawp_sound noY_sound _ _ _ _ ?_)
 have hE : Ext H H := Ext.refl H
 simp only [EVA, reduceIte, reduceCtorEq, Nat.reduceLT, Nat.reduceLeDiff, Int.reduceEq, Int.reduceLT, Int.reduceLE, Nat.reduceMul, Tryz.ntmps92, rs92_0, rs92_0]
 obtain rfl := Option.some.inj hg
 exact ⟨_, (wkR.a (wkA.v (wkV.nilf _ _))), hK⟩
/-- skymosaic/withdraw.sorted[int] -/
theorem rs66 : Tryz.f66.results.toList = [.tmp 2] := rfl
def g66 (n : Nat) (a0 : List Int) : Option (List Int) := if a0.length ≤ 17592186044416 then (if a0 = [] then ((g91_0 n ).bind fun v5 => (g92_0 n ).bind fun v7 => some v7) else ((g91 n a0 a0.length).bind fun v10 => (g92 n v10 a0.length).bind fun v13 => if v13.1 ≤ v13.2.length then (some (List.take v13.1 v13.2)) else none)) else none
theorem c66 (B : Nat) (w0 : World) (n : Nat) (a0 : List Int) (ta0 : Tail) (H : AHeap) (K : AV → AHeap → Prop) (r : (List Int)) (hg : g66 n a0 = some r)  (hK : ∀ (H' : AHeap), Ext H H' → K (.dl 1 (List.map (AV.int .i64) r) .none) H') : ACall Tryz.prog B w0 66 [.dl 1 (List.map (AV.int .i64) a0) ta0] H K := by
 refine ACall.frz ?_
 unfold g66 at hg
 refine ACall.enter Tryz.func66 (by kernel_rfl) rfl (eawp_sound noY_sound _ _ _ _ ?_)
 have hE : Ext H H := Ext.refl H
 simp only [EVA, reduceIte, reduceCtorEq, Tryz.ntmps66, rs66]
 obtain ⟨h2, hg⟩ := guard_some hg
 rcases ite_some hg with ⟨h1, hg⟩ | ⟨h1, hg⟩
 ·refine c90m B w0 n a0 ta0 _ _ _ h2 hE (fun _ => ?_) (fun h9 => absurd h1 h9)
  simp only [EVA, reduceIte, reduceCtorEq]
  obtain ⟨v5, ch6, hg⟩ := bind_some hg
  refine ACall.wkA (args := [.dl 0 [] .full]) (c91_0 B w0 n  _ _ v5 ch6  ?_) (WkA.r WkA.nil)
  simp only [EVA, reduceIte, reduceCtorEq]
  obtain ⟨v7, ch8, hg⟩ := bind_some hg
  refine ACall.wkA (args := [.dl 0 [] .full]) (c92_0 B w0 n  _ _ v7 ch8  ?_) (WkA.r WkA.nil)
  simp only [EVA, reduceIte, reduceCtorEq, rs66]
  obtain rfl := Option.some.inj hg
  exact .inl ⟨_, wkR.a (wkA.v (wkV.tail _ _ _)), hK _ hE⟩
 ·refine c90m B w0 n a0 ta0 _ _ _ h2 hE (fun h9 => absurd h9 h1) (fun _ => ?_)
  intro o3 H4 hE xo3 g_o3 f_o3 n_o3
  simp only [EVA, reduceIte, reduceCtorEq, f_o3]
  obtain ⟨v10, ch11, hg⟩ := bind_some hg
  refine ACall.wkA (args := [.sl 1 o3 0 a0.length]) (c91 B w0 n a0 a0.length o3 ([]) ([]) H _ _ v10 ch11 hE g_o3 f_o3 (Nf.nil _) (FrObj.nil _) (FrTl.nil _ _) ?_) (WkA.r WkA.nil)
  intro H12 hE f9_o3 hfo9 hft9
  have f_o3 : H12[o3]? = some (.cells (List.map (AV.int .i64) v10)) := f9_o3
  simp only [EVA, reduceIte, reduceCtorEq, f_o3]
  obtain ⟨v13, ch14, hg⟩ := bind_some hg
  refine ACall.wkA (args := [.sl 1 o3 0 a0.length]) (c92 B w0 n v10 a0.length o3 ([]) ([]) H _ _ v13 ch14 hE g_o3 f_o3 (Nf.nil _) (FrObj.nil _) (FrTl.nil _ _) ?_) (WkA.r WkA.nil)
  intro H15 hE f9_o3 hfo9 hft9
  have f_o3 : H15[o3]? = some (.cells (List.map (AV.int .i64) v13.2)) := f9_o3
  obtain ⟨h16, hg⟩ := guard_some hg
  simp only [EVA, reduceIte, reduceCtorEq, rs66, f_o3]
  obtain rfl := Option.some.inj hg
  refine .inr ⟨o3, v13.1, _, rfl, f_o3, by simpa using h16, frz_map (AV.int .i64) (fun _ => rfl) _, ?_⟩
  rw [← List.map_take]
  exact hK _ (hE.set _ g_o3)
/-- skymosaic/withdraw.rising[int] -/
theorem rs34 : Tryz.f34.results.toList = [.tmp 2] := rfl
def g34 (n : Nat) (a0 : List Int) : Option (Bool) := (g66 n a0).bind fun v1 => (g65 n v1 a0).bind fun v5 => some v5
theorem c34 (B : Nat) (w0 : World) (n : Nat) (a0 : List Int) (ta0 : Tail) (H : AHeap) (K : AV → AHeap → Prop) (r : (Bool)) (hg : g34 n a0 = some r)  (hK : ∀ (H' : AHeap), Ext H H' → K (.bool r) H') : ACall Tryz.prog B w0 34 [.dl 1 (List.map (AV.int .i64) a0) ta0] H K := by
 unfold g34 at hg
 refine ACall.enter Tryz.func34 (by kernel_rfl) rfl (eawp_sound noY_sound _ _ _ _ ?_)
 have hE : Ext H H := Ext.refl H
 simp only [EVA, reduceIte, reduceCtorEq, Tryz.ntmps34, rs34]
 obtain ⟨v1, ch2, hg⟩ := bind_some hg
 refine ACall.wkA (args := [.dl 1 (List.map (AV.int .i64) a0) ta0]) (c66 B w0 n a0 ta0 _ _ v1 ch2  ?_) (WkA.r WkA.nil)
 intro H3 x4
 have hE := hE.trans x4
 simp only [EVA, reduceIte, reduceCtorEq]
 obtain ⟨v5, ch6, hg⟩ := bind_some hg
 refine ACall.wkA (args := [.dl 1 (List.map (AV.int .i64) v1) .none, .dl 1 (List.map (AV.int .i64) a0) ta0]) (c65 B w0 n v1 a0 .none ta0 _ _ v5 ch6  ?_) (WkA.r (WkA.r WkA.nil))
 simp only [EVA, reduceIte, reduceCtorEq, rs34]
 obtain rfl := Option.some.inj hg
 exact (hK  _ hE )
/-- slices.Concat[[]skymosaic/proof.Proof,skymosaic/proof.Proof] -/
def l67_1 (n : Nat) (a0 : List (List S1)) : Nat → List S1 → Int → Option (List S1)
 | 0, _, _ => none
 | k18 + 1, x15, x17 => if x17 < (a0.length : Int) then (if (0 : Int) ≤ x17 ∧ x17 < (a0.length : Int) then (if x15.length + (rd a0 x17).length ≤ 1599289640401 then ((l67_1 n a0 k18) (x15 ++ (rd a0 x17)) (IntKind.i64.wrap (x17 + 1))) else none) else none) else (some x15)
def l67_0 (n : Nat) (a0 : List (List S1)) : Nat → Int → Int → Option (List S1)
 | 0, _, _ => none
 | k3 + 1, x1, x2 => if x2 < (a0.length : Int) then (if (0 : Int) ≤ x2 ∧ x2 < (a0.length : Int) then (if (IntKind.i64.wrap (x1 + ((rd a0 x2).length : Int))) < 0 then (none) else ((l67_0 n a0 k3) (IntKind.i64.wrap (x1 + ((rd a0 x2).length : Int))) (IntKind.i64.wrap (x2 + 1)))) else none) else ((g93 n x1).bind fun v9 => l67_1 n a0 n v9 0)
theorem rs67 : Tryz.f67.results.toList = [.tmp 2] := rfl
def g67 (n : Nat) (a0 : List (List S1)) : Option (List S1) := l67_0 n a0 n 0 0
theorem c67 (B : Nat) (w0 : World) (n : Nat) (a0 : List (List S1)) (ta0 : Tail) (H : AHeap) (K : AV → AHeap → Prop) (r : (List S1)) (hg : g67 n a0 = some r)  (hK : ∀ (q0 : Tail) (H' : AHeap), Ext H H' → Free H H' q0 → K (.dl 7 (List.map encS1 r) q0) H') : ACall Tryz.prog B w0 67 [.dl 1 (List.map encL3 a0) ta0] H K := by
 refine ACall.wkR ?_
 unfold g67 at hg
 refine ACall.enter Tryz.func67 (by kernel_rfl) rfl (eawp_sound noY_sound _ _ _ _ ?_)
 have hE : Ext H H := Ext.refl H
 simp only [EVA, reduceIte, reduceCtorEq, Tryz.ntmps67, rs67, (show IntKind.i64.wrap 1 = 1 from rfl)]
 refine AWP.loop (σ := Nat × Int × Int) (fun s => [.dl 1 (List.map encL3 a0) ta0, .undef, .undef, .int .i64 s.2.1, .undef, .undef, .undef, .undef, .undef, .dl 1 (List.map encL3 a0) ta0, .int .i64 (a0.length : Int), .int .i64 s.2.2, .undef, .undef, .undef, .undef, .undef, .undef, .undef, .undef, .undef, .undef, .undef, .undef, .undef, .undef, .undef, .undef, .undef, .undef, .undef, .undef, .undef, .undef, .undef, .undef]) (fun s H' => l67_0 n a0 s.1 s.2.1 s.2.2 = some r ∧ SameH H H') (fun s => s.1) ⟨⟨n, 0, 0⟩, (by repeat' first | exact Wk.nil | apply Wk.u | apply Wk.r), ⟨hg, (rfl : SameH _ _)⟩⟩ ?_
 rintro ⟨k3, x1, x2⟩ H4 ⟨hg, hH9⟩ _
 unfold SameH at hH9
 subst hH9
 try dsimp only at hg
 cases k3 with
 | zero => simp only [l67_0, reduceCtorEq] at hg
 | succ k3 =>
  rw [l67_0] at hg
  refine eawp_sound noY_sound _ _ _ _ ?_
  simp only [EVA, reduceIte, reduceCtorEq, (show IntKind.i64.wrap 1 = 1 from rfl)]
  rcases ite_some hg with ⟨h5, hg⟩ | ⟨h5, hg⟩
  ·refine Br.yes h5 ?_
   obtain ⟨h6, hg⟩ := guard_some hg
   have q7 : List.getD (List.map encL3 a0) (Int.toNat x2) AV.undef = encL3 (rd a0 x2) := rd_map (l := a0) (i := x2) encL3 h6
   simp only [EVA, reduceIte, reduceCtorEq, eq_true h5, eq_true h6.1, eq_true h6.2, q7, (show IntKind.i64.wrap 1 = 1 from rfl)]
   rcases ite_some hg with ⟨h8, hg⟩ | ⟨h8, hg⟩
   ·refine Br.yes h8 ?_
    cases hg
   ·refine Br.no h8 ?_
    simp only [EVA, reduceIte, reduceCtorEq, eq_true h5, eq_true h6.1, eq_true h6.2, q7, eq_false h8, (show IntKind.i64.wrap 1 = 1 from rfl)]
    exact ⟨⟨k3, IntKind.i64.wrap (x1 + ((rd a0 x2).length : Int)), IntKind.i64.wrap (x2 + 1)⟩, (by repeat' first | exact Wk.nil | apply Wk.u | apply Wk.r), ⟨hg, (rfl : SameH _ _)⟩, Nat.lt_succ_self _⟩
  ·refine Br.no h5 ?_
   simp only [EVA, reduceIte, reduceCtorEq, eq_false h5, (show IntKind.i64.wrap 1 = 1 from rfl)]
   obtain ⟨v9, ch10, hg⟩ := bind_some hg
   refine ACall.wkA (args := [.dl 0 [] .full, .int .i64 x1]) (c93 B w0 n x1 _ _ v9 ch10  ?_) (WkA.r (WkA.r WkA.nil))
   intro tl11 H12 x13 F14
   have F14 := F14.low hE
   have hE := hE.trans x13
   simp only [EVA, reduceIte, reduceCtorEq, eq_false h5, (show IntKind.i64.wrap 1 = 1 from rfl)]
   refine AWP.loop (σ := Nat × List S1 × Int × Tail) (fun s => [.undef, .undef, .undef, .undef, .undef, .undef, .dl 7 (List.map encS1 s.2.1) s.2.2.2, .undef, .undef, .undef, .undef, .undef, .undef, .undef, .undef, .undef, .undef, .undef, .undef, .undef, .undef, .undef, .undef, .undef, .undef, .dl 1 (List.map encL3 a0) ta0, .int .i64 (a0.length : Int), .int .i64 s.2.2.1, .undef, .undef, .undef, .undef, .undef, .undef, .undef, .undef]) (fun s H' => l67_1 n a0 s.1 s.2.1 s.2.2.1 = some r ∧ Ext H H' ∧ Free H H' s.2.2.2) (fun s => s.1) ⟨⟨n, v9, 0, tl11⟩, (by repeat' first | exact Wk.nil | apply Wk.u | apply Wk.r), ⟨hg, hE, F14⟩⟩ ?_
   rintro ⟨k18, x15, x17, tl16⟩ H19 ⟨hg, hE, F20⟩ _
   try dsimp only at hg F20
   cases k18 with
   | zero => simp only [l67_1, reduceCtorEq] at hg
   | succ k18 =>
    rw [l67_1] at hg
    refine eawp_sound noY_sound _ _ _ _ ?_
    simp only [EVA, reduceIte, reduceCtorEq, eq_false h5, (show IntKind.i64.wrap 1 = 1 from rfl)]
    rcases ite_some hg with ⟨h21, hg⟩ | ⟨h21, hg⟩
    ·refine Br.yes h21 ?_
     obtain ⟨h22, hg⟩ := guard_some hg
     have q23 : List.getD (List.map encL3 a0) (Int.toNat x17) AV.undef = encL3 (rd a0 x17) := rd_map (l := a0) (i := x17) encL3 h22
     simp only [EVA, reduceIte, reduceCtorEq, eq_false h5, eq_true h21, eq_true h22.1, eq_true h22.2, q23, (show IntKind.i64.wrap 1 = 1 from rfl)]
     obtain ⟨h29, hg⟩ := guard_some hg
     refine AppE.goM (H0 := H) encS1 x15 (rd a0 x17) (n := 1599289640401) ty63 rfl ty64 rfl rfl (by decide) (.dl 7 (List.map encS1 (rd a0 x17)) .none) (wkD.refl _) (srcA_dl ty63 rfl) (.inl rfl) h29 (by decide) (by decide) hE F20 ?_
     intro tl24 H25 hE F26 p27 q28 l9
     simp only [EVA, reduceIte, reduceCtorEq, eq_false h5, eq_true h21, eq_true h22.1, eq_true h22.2, q23, (show IntKind.i64.wrap 1 = 1 from rfl)]
     exact ⟨⟨k18, x15 ++ (rd a0 x17), IntKind.i64.wrap (x17 + 1), tl24⟩, (by repeat' first | exact Wk.nil | apply Wk.u | apply Wk.r), ⟨hg, hE, F26⟩, Nat.lt_succ_self _⟩
    ·refine Br.no h21 ?_
     simp only [EVA, reduceIte, reduceCtorEq, rs67, eq_false h5, eq_false h21, (show IntKind.i64.wrap 1 = 1 from rfl)]
     obtain rfl := Option.some.inj hg
     exact ⟨_, (wkR.a (wkA.refl _)), (hK tl16 _ hE F20)⟩
/-- slices.Index[[]uint64,uint64] -/
def l113_0 (n : Nat) (a0 : List Int) (a1 : Int) : Nat → Int → Option (Int)
 | 0, _ => none
 | k2 + 1, x1 => if x1 < (a0.length : Int) then (if (0 : Int) ≤ x1 ∧ x1 < (a0.length : Int) then (if a1 = (rd a0 x1) then (some x1) else ((l113_0 n a0 a1 k2) (IntKind.i64.wrap (x1 + 1)))) else none) else (some (-1))
theorem rs113 : Tryz.f113.results.toList = [.tmp 4] := rfl
def g113 (n : Nat) (a0 : List Int) (a1 : Int) : Option (Int) := l113_0 n a0 a1 n 0
theorem c113 (B : Nat) (w0 : World) (n : Nat) (a0 : List Int) (a1 : Int) (ta0 : Tail) (H : AHeap) (K : AV → AHeap → Prop) (r : (Int)) (hg : g113 n a0 a1 = some r)  (hK : K (.int .i64 r) H) : ACall Tryz.prog B w0 113 [.dl 1 (List.map (AV.int .u64) a0) ta0, .int .u64 a1] H K := by
 unfold g113 at hg
 refine ACall.enter Tryz.func113 (by kernel_rfl) rfl (eawp_sound noY_sound _ _ _ _ ?_)
 have hE : Ext H H := Ext.refl H
 simp only [EVA, reduceIte, reduceCtorEq, Tryz.ntmps113, rs113, (show IntKind.i64.wrap 1 = 1 from rfl)]
 refine AWP.loop (σ := Nat × Int) (fun s => [.dl 1 (List.map (AV.int .u64) a0) ta0, .int .u64 a1, .undef, .undef, .undef, .undef, .undef, .int .i64 (a0.length : Int), .int .i64 s.2, .undef, .undef, .undef, .undef, .undef, .undef, .undef, .undef, .undef, .undef]) (fun s H' => l113_0 n a0 a1 s.1 s.2 = some r ∧ SameH H H') (fun s => s.1) ⟨⟨n, 0⟩, (by repeat' first | exact Wk.nil | apply Wk.u | apply Wk.r), ⟨hg, (rfl : SameH _ _)⟩⟩ ?_
 rintro ⟨k2, x1⟩ H3 ⟨hg, hH9⟩ _
 unfold SameH at hH9
 subst hH9
 try dsimp only at hg
 cases k2 with
 | zero => simp only [l113_0, reduceCtorEq] at hg
 | succ k2 =>
  rw [l113_0] at hg
  refine eawp_sound noY_sound _ _ _ _ ?_
  simp only [EVA, reduceIte, reduceCtorEq, (show IntKind.i64.wrap 1 = 1 from rfl)]
  rcases ite_some hg with ⟨h4, hg⟩ | ⟨h4, hg⟩
  ·refine Br.yes h4 ?_
   obtain ⟨h5, hg⟩ := guard_some hg
   have q6 : List.getD (List.map (AV.int .u64) a0) (Int.toNat x1) AV.undef = (AV.int .u64) (rd a0 x1) := rd_map (l := a0) (i := x1) (AV.int .u64) h5
   simp only [EVA, reduceIte, reduceCtorEq, eq_true h4, eq_true h5.1, eq_true h5.2, q6, (show IntKind.i64.wrap 1 = 1 from rfl)]
   rcases ite_some hg with ⟨h7, hg⟩ | ⟨h7, hg⟩
   ·refine Br.yes h7 ?_
    simp only [EVA, reduceIte, reduceCtorEq, rs113, eq_true h4, eq_true h5.1, eq_true h5.2, q6, eq_true h7, (show IntKind.i64.wrap 1 = 1 from rfl)]
    obtain rfl := Option.some.inj hg
    exact hK
   ·refine Br.no h7 ?_
    simp only [EVA, reduceIte, reduceCtorEq, eq_true h4, eq_true h5.1, eq_true h5.2, q6, eq_false h7, (show IntKind.i64.wrap 1 = 1 from rfl)]
    exact ⟨⟨k2, IntKind.i64.wrap (x1 + 1)⟩, (by repeat' first | exact Wk.nil | apply Wk.u | apply Wk.r), ⟨hg, (rfl : SameH _ _)⟩, Nat.lt_succ_self _⟩
  ·refine Br.no h4 ?_
   simp only [EVA, reduceIte, reduceCtorEq, rs113, eq_false h4, (show IntKind.i64.wrap 1 = 1 from rfl)]
   obtain rfl := Option.some.inj hg
   exact hK
/-- slices.Contains[[]uint64,uint64] -/
theorem rs95 : Tryz.f95.results.toList = [.tmp 4] := rfl
def g95 (n : Nat) (a0 : List Int) (a1 : Int) : Option (Bool) := (g113 n a0 a1).bind fun v1 => some (decide (0 ≤ v1))
theorem c95 (B : Nat) (w0 : World) (n : Nat) (a0 : List Int) (a1 : Int) (ta0 : Tail) (H : AHeap) (K : AV → AHeap → Prop) (r : (Bool)) (hg : g95 n a0 a1 = some r)  (hK : K (.bool r) H) : ACall Tryz.prog B w0 95 [.dl 1 (List.map (AV.int .u64) a0) ta0, .int .u64 a1] H K := by
 unfold g95 at hg
 refine ACall.enter Tryz.func95 (by kernel_rfl) rfl (eawp_sound noY_sound _ _ _ _ ?_)
 have hE : Ext H H := Ext.refl H
 simp only [EVA, reduceIte, reduceCtorEq, Tryz.ntmps95, rs95]
 obtain ⟨v1, ch2, hg⟩ := bind_some hg
 refine ACall.wkA (args := [.dl 1 (List.map (AV.int .u64) a0) ta0, .int .u64 a1]) (c113 B w0 n a0 a1 ta0 _ _ v1 ch2  ?_) (WkA.r (WkA.r WkA.nil))
 simp only [EVA, reduceIte, reduceCtorEq, rs95]
 obtain rfl := Option.some.inj hg
 exact hK
/-- skymosaic/proof.Uses -/
theorem rs70 : Tryz.f70.results.toList = [.tmp 4] := rfl
def g70 (n : Nat) (a0 : S1) (a1 : Int) : Option (Bool) := (g95 n a0.c4 a1).bind fun v3 => some v3
theorem c70 (B : Nat) (w0 : World) (n : Nat) (a0 : S1) (a1 : Int) (H : AHeap) (K : AV → AHeap → Prop) (r : (Bool)) (hg : g70 n a0 a1 = some r)  (hK : ∀ (H' : AHeap), Ext H H' → K (.bool r) H') : ACall Tryz.prog B w0 70 [.agg [.int .i64 a0.c0, .int .i64 a0.c1, .int .i64 a0.c2, .int .u64 a0.c3, .dl 1 (List.map (AV.int .u64) a0.c4) .none, .dl 1 (List.map (AV.int .u64) a0.c5) .none, .int .u64 a0.c6], .int .u64 a1] H K := by
 unfold g70 at hg
 refine ACall.enter Tryz.func70 (by kernel_rfl) rfl (eawp_sound noY_sound _ _ _ _ ?_)
 have hE : Ext H H := Ext.refl H
 simp only [EVA, reduceIte, reduceCtorEq, Tryz.ntmps70, rs70]
 refine eop_box_go (H0 := H) (v := .agg [.int .i64 a0.c0, .int .i64 a0.c1, .int .i64 a0.c2, .int .u64 a0.c3, .dl 1 (List.map (AV.int .u64) a0.c4) .none, .dl 1 (List.map (AV.int .u64) a0.c5) .none, .int .u64 a0.c6]) rfl rfl hE ?_
 intro o1 H2 hE xo1 g_o1 f_o1 n_o1
 have f_o1 : H2[o1]? = some (.cells ([.int .i64 a0.c0, .int .i64 a0.c1, .int .i64 a0.c2, .int .u64 a0.c3, .dl 1 (List.map (AV.int .u64) a0.c4) .none, .dl 1 (List.map (AV.int .u64) a0.c5) .none, .int .u64 a0.c6])) := f_o1
 simp only [EVA, reduceIte, reduceCtorEq, f_o1]
 obtain ⟨v3, ch4, hg⟩ := bind_some hg
 refine ACall.wkA (args := [.dl 1 (List.map (AV.int .u64) a0.c4) .none, .int .u64 a1]) (c95 B w0 n a0.c4 a1 .none _ _ v3 ch4  ?_) (WkA.r (WkA.r WkA.nil))
 simp only [EVA, reduceIte, reduceCtorEq, rs70, f_o1]
 obtain rfl := Option.some.inj hg
 exact (hK  _ hE )
/-- skymosaic/withdraw.named$1 -/
theorem rs69_0 : Tryz.f69.results.toList = [.tmp 3] := rfl
def g69_0 (n : Nat) (a0 : Int) (a1 : S1) : Option (Bool) := (g70 n (⟨a1.c0, a1.c1, a1.c2, a1.c3, a1.c4, a1.c5, a1.c6⟩ : S1) a0).bind fun v1 => some v1
theorem c69_0 (B : Nat) (w0 : World) (n : Nat) (a0 : Int) (a1 : S1) (pa1 : Nat) (H : AHeap) (K : AV → AHeap → Prop) (r : (Bool)) (hg : g69_0 n a0 a1 = some r) (f_pa1 : H[pa1]? = some (.cells ([.int .i64 a1.c0, .int .i64 a1.c1, .int .i64 a1.c2, .int .u64 a1.c3, .dl 1 (List.map (AV.int .u64) a1.c4) .none, .dl 1 (List.map (AV.int .u64) a1.c5) .none, .int .u64 a1.c6]))) (hK : ∀ (H' : AHeap), Ext H H' → K (.bool r) H') : ACall Tryz.prog B w0 69 [.int .u64 a0, .ptr pa1 0] H K := by
 unfold g69_0 at hg
 refine ACall.enter Tryz.func69 (by kernel_rfl) rfl (eawp_sound noY_sound _ _ _ _ ?_)
 have hE : Ext H H := Ext.refl H
 simp only [EVA, reduceIte, reduceCtorEq, Tryz.ntmps69, rs69_0, f_pa1]
 obtain ⟨v1, ch2, hg⟩ := bind_some hg
 refine ACall.wkA (args := [.agg [.int .i64 a1.c0, .int .i64 a1.c1, .int .i64 a1.c2, .int .u64 a1.c3, .dl 1 (List.map (AV.int .u64) a1.c4) .none, .dl 1 (List.map (AV.int .u64) a1.c5) .none, .int .u64 a1.c6], .int .u64 a0]) (c70 B w0 n (⟨a1.c0, a1.c1, a1.c2, a1.c3, a1.c4, a1.c5, a1.c6⟩ : S1) a0 _ _ v1 ch2  ?_) (WkA.cons (wkA.agg (by repeat' first | exact Wk.nil | apply Wk.u | apply Wk.r)) (WkA.r WkA.nil))
 intro H3 x4
 have f_pa1 := x4.2 _ _ f_pa1
 have hE := hE.trans x4
 simp only [EVA, reduceIte, reduceCtorEq, rs69_0, f_pa1]
 obtain rfl := Option.some.inj hg
 exact (hK  _ hE )
/-- slices.IndexFunc[[]uint64,uint64] -/
def l94_0_0 (n : Nat) (a0 : List Int) (a1c0 : S1) : Nat → Int → Option (Int)
 | 0, _ => none
 | k2 + 1, x1 => if x1 < (a0.length : Int) then (if (0 : Int) ≤ x1 ∧ x1 < (a0.length : Int) then ((g69_0 n (rd a0 x1) (⟨a1c0.c0, a1c0.c1, a1c0.c2, a1c0.c3, a1c0.c4, a1c0.c5, a1c0.c6⟩ : S1)).bind fun v7 => if v7 = true then (some x1) else ((l94_0_0 n a0 a1c0 k2) (IntKind.i64.wrap (x1 + 1)))) else none) else (some (-1))
theorem rs94_0 : Tryz.f94.results.toList = [.tmp 4] := rfl
def g94_0 (n : Nat) (a0 : List Int) (a1c0 : S1) : Option (Int) := l94_0_0 n a0 a1c0 n 0
theorem c94_0 (B : Nat) (w0 : World) (n : Nat) (a0 : List Int) (a1c0 : S1) (ta0 : Tail) (pa1c0 : Nat) (H : AHeap) (K : AV → AHeap → Prop) (r : (Int)) (hg : g94_0 n a0 a1c0 = some r) (f_pa1c0 : H[pa1c0]? = some (.cells ([.int .i64 a1c0.c0, .int .i64 a1c0.c1, .int .i64 a1c0.c2, .int .u64 a1c0.c3, .dl 1 (List.map (AV.int .u64) a1c0.c4) .none, .dl 1 (List.map (AV.int .u64) a1c0.c5) .none, .int .u64 a1c0.c6]))) (hK : ∀ (H' : AHeap), Ext H H' → K (.int .i64 r) H') : ACall Tryz.prog B w0 94 [.dl 1 (List.map (AV.int .u64) a0) ta0, .fn (.func 69) [] [.ptr pa1c0 0]] H K := by
 unfold g94_0 at hg
 refine ACall.enter Tryz.func94 (by kernel_rfl) rfl (eawp_sound noY_sound _ _ _ _ ?_)
 have hE : Ext H H := Ext.refl H
 simp only [EVA, reduceIte, reduceCtorEq, Tryz.ntmps94, rs94_0, f_pa1c0, (show IntKind.i64.wrap 1 = 1 from rfl)]
 refine AWP.loop (σ := Nat × Int) (fun s => [.dl 1 (List.map (AV.int .u64) a0) ta0, .fn (.func 69) [] [.ptr pa1c0 0], .undef, .undef, .undef, .undef, .undef, .int .i64 (a0.length : Int), .int .i64 s.2, .undef, .undef, .undef, .undef, .undef, .undef, .undef, .undef, .undef, .undef]) (fun s H' => l94_0_0 n a0 a1c0 s.1 s.2 = some r ∧ Ext H H' ∧ ObjAt H' pa1c0 ([.int .i64 a1c0.c0, .int .i64 a1c0.c1, .int .i64 a1c0.c2, .int .u64 a1c0.c3, .dl 1 (List.map (AV.int .u64) a1c0.c4) .none, .dl 1 (List.map (AV.int .u64) a1c0.c5) .none, .int .u64 a1c0.c6])) (fun s => s.1) ⟨⟨n, 0⟩, (by repeat' first | exact Wk.nil | apply Wk.u | apply Wk.r), ⟨hg, hE, f_pa1c0⟩⟩ ?_
 rintro ⟨k2, x1⟩ H3 ⟨hg, hE, f9_pa1c0⟩ _
 have f_pa1c0 : H3[pa1c0]? = some (.cells ([.int .i64 a1c0.c0, .int .i64 a1c0.c1, .int .i64 a1c0.c2, .int .u64 a1c0.c3, .dl 1 (List.map (AV.int .u64) a1c0.c4) .none, .dl 1 (List.map (AV.int .u64) a1c0.c5) .none, .int .u64 a1c0.c6])) := f9_pa1c0
 clear f9_pa1c0
 try dsimp only at hg
 cases k2 with
 | zero => simp only [l94_0_0, reduceCtorEq] at hg
 | succ k2 =>
  rw [l94_0_0] at hg
  refine eawp_sound noY_sound _ _ _ _ ?_
  simp only [EVA, reduceIte, reduceCtorEq, f_pa1c0, (show IntKind.i64.wrap 1 = 1 from rfl)]
  rcases ite_some hg with ⟨h4, hg⟩ | ⟨h4, hg⟩
  ·refine Br.yes h4 ?_
   obtain ⟨h5, hg⟩ := guard_some hg
   have q6 : List.getD (List.map (AV.int .u64) a0) (Int.toNat x1) AV.undef = (AV.int .u64) (rd a0 x1) := rd_map (l := a0) (i := x1) (AV.int .u64) h5
   simp only [EVA, reduceIte, reduceCtorEq, eq_true h4, eq_true h5.1, eq_true h5.2, q6, f_pa1c0, (show IntKind.i64.wrap 1 = 1 from rfl)]
   obtain ⟨v7, ch8, hg⟩ := bind_some hg
   refine ACall.wkA (args := [.int .u64 (rd a0 x1), .ptr pa1c0 0]) (c69_0 B w0 n (rd a0 x1) (⟨a1c0.c0, a1c0.c1, a1c0.c2, a1c0.c3, a1c0.c4, a1c0.c5, a1c0.c6⟩ : S1) pa1c0 _ _ v7 ch8 f_pa1c0 ?_) (WkA.r (WkA.r WkA.nil))
   intro H9 x10
   have f_pa1c0 := x10.2 _ _ f_pa1c0
   have hE := hE.trans x10
   rcases ite_some hg with ⟨h11, hg⟩ | ⟨h11, hg⟩
   ·simp only [EVA, reduceIte, reduceCtorEq, rs94_0, eq_true h4, eq_true h5.1, eq_true h5.2, q6, h11, f_pa1c0, (show IntKind.i64.wrap 1 = 1 from rfl)]
    obtain rfl := Option.some.inj hg
    exact (hK  _ hE )
   ·have h11 := Bool.eq_false_iff.2 h11
    simp only [EVA, reduceIte, reduceCtorEq, eq_true h4, eq_true h5.1, eq_true h5.2, q6, h11, f_pa1c0, (show IntKind.i64.wrap 1 = 1 from rfl)]
    exact ⟨⟨k2, IntKind.i64.wrap (x1 + 1)⟩, (by repeat' first | exact Wk.nil | apply Wk.u | apply Wk.r), ⟨hg, hE, f_pa1c0⟩, Nat.lt_succ_self _⟩
  ·refine Br.no h4 ?_
   simp only [EVA, reduceIte, reduceCtorEq, rs94_0, eq_false h4, f_pa1c0, (show IntKind.i64.wrap 1 = 1 from rfl)]
   obtain rfl := Option.some.inj hg
   exact (hK  _ hE )
end Go.Av
end
