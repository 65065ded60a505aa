/- the walks, part 13 -/
import Derived.Test.YtcgndadlcgnilaaGreatA28
import Derived.Test.YtcgndadlcgnilaaGreatW1
import Derived.Test.YtcgndadlcgnilaaGreatW2
import Derived.Test.YtcgndadlcgnilaaGreatW3
import Derived.Test.YtcgndadlcgnilaaGreatW8
import Derived.Test.YtcgndadlcgnilaaGreatW9
import Derived.Test.YtcgndadlcgnilaaGreatW11
import Derived.Test.YtcgndadlcgnilaaGreatW12
set_option autoImplicit false
set_option linter.unusedSimpArgs false
set_option linter.unusedVariables false
section
set_option maxHeartbeats 1000000
set_option maxRecDepth 10000
namespace Go.Av
open Go.Proofs
/-- skymosaic/skymosaiclaw38.WithdrawMakes -/
def l3_0 (n : Nat) (a2 : Int) (a3 : Int) (v1 : (Int)) (v3 : (List S2 × List S2)) (v12 : (List Int)) (v20 : (List (List S1))) (v29 : (Int)) (v31 : (Int)) (v33 : (Int)) : Nat → Int → Option (Bool)
  | 0, _ => none
  | k37 + 1, x36 => if x36 < 3 then (if (0 : Int) ≤ x36 ∧ x36 < 3 then (if (0 : Int) ≤ x36 ∧ x36 < 3 then (if (0 : Int) ≤ x36 ∧ x36 < 3 then ((g12 n v3.1).bind fun v52 => (g12 n (rd ([v3.2, v3.2, List.take (Int.toNat v33) v3.2] : List (List S2)) x36)).bind fun v61 => (g13 n v20).bind fun v71 => (g11 n (rd ([v29, a2, IntKind.i64.wrap (v31 - 1)] : List Int) x36) (rd ([v1, v1, a3] : List Int) x36) v52 v61 v12 v71).bind fun v82 => if (0 : Int) ≤ x36 ∧ x36 < 3 then (if (0 : Int) ≤ x36 ∧ x36 < 3 then (if (0 : Int) ≤ x36 ∧ x36 < 3 then ((g14 n (rd ([v29, a2, IntKind.i64.wrap (v31 - 1)] : List Int) x36) (rd ([v1, v1, a3] : List Int) x36) v3.1 (rd ([v3.2, v3.2, List.take (Int.toNat v33) v3.2] : List (List S2)) x36) v12 v20).bind fun v96 => if v82.2 = v96.2 then ((g16 n (⟨v82.1.c0, v82.1.c1, v82.1.c2, v82.1.c3, v82.1.c4, v82.1.c5, v82.1.c6⟩ : S8)).bind fun v105 => (g15 n (⟨v105.c0, v105.c1, v105.c2, v105.c3, v105.c4, v105.c5, v105.c6⟩ : S8) (⟨v96.1.c0, v96.1.c1, v96.1.c2, v96.1.c3, v96.1.c4, v96.1.c5, v96.1.c6⟩ : S8)).bind fun v109 => if v109 = true then ((l3_0 n a2 a3 v1 v3 v12 v20 v29 v31 v33 k37) (IntKind.i64.wrap (x36 + 1))) else (some false)) else (some false)) else none) else none) else none) else none) else none) else none) else ((g17 n ).bind fun v114 => some v114)
theorem rs3 : Tryz.f3.results.toList = [.tmp 10] := rfl
def g3 (n : Nat) (a0 : List Int) (a1 : List Int) (a2 : Int) (a3 : Int) (a4 : Int) : Option (Bool) := (g7 n a3 9).bind fun v1 => (g8 n a0 v1).bind fun v3 => (g9 n a1 a4).bind fun v12 => (g10 n a1 (v3.1.length : Int)).bind fun v20 => (g7 n a2 4096).bind fun v29 => (g7 n a2 3).bind fun v31 => (g7 n a4 (IntKind.i64.wrap ((v3.2.length : Int) + 1))).bind fun v33 => if 0 ≤ v33 ∧ (0 ≤ Int.toNat v33 ∧ Int.toNat v33 ≤ v3.2.length) then (l3_0 n a2 a3 v1 v3 v12 v20 v29 v31 v33 n 0) else none
theorem c3 (B : Nat) (w0 : World) (n : Nat) (a0 : List Int) (a1 : List Int) (a2 : Int) (a3 : Int) (a4 : Int) (ta0 : Tail) (ta1 : Tail) (H : AHeap) (K : AV → AHeap → Prop) (r : (Bool)) (hg : g3 n a0 a1 a2 a3 a4 = some r)  (hK : ∀ (H' : AHeap), Ext H H' → K (.bool r) H') : ACall Tryz.prog B w0 3 [.dl 1 (List.map (AV.int .i64) a0) ta0, .dl 1 (List.map (AV.int .i64) a1) ta1, .int .i64 a2, .int .i64 a3, .int .i64 a4] H K := by
  unfold g3 at hg
  refine ACall.enter Tryz.func3 (by kernel_rfl) rfl (eawp_sound noY_sound _ _ _ _ ?_)
  have hE : Ext H H := Ext.refl H
  simp only [EVA, Nat.reduceAdd, Nat.reduceMul, Nat.reduceSub, Nat.reduceLeDiff, Nat.reduceLT, Nat.reduceBEq, Nat.reduceEqDiff, reduceIte, reduceCtorEq, Int.reduceLT, Int.reduceLE, Int.reduceToNat, Int.reducePow, Nat.reducePow, Int.reduceAdd, Int.reduceSub, Int.reduceNeg, Int.reduceEq, String.reduceEq, Tryz.ntmps3, rs3, (show IntKind.i64.wrap 1 = 1 from rfl)]
  obtain ⟨v1, ch2, hg⟩ := bind_some hg
  refine ACall.wkA (args := [.int .i64 a3, .int .i64 9]) (c7 B w0 n a3 9 _ _ v1 ch2  ?_) (WkA.cons (wkA.refl _) (WkA.cons (wkA.refl _) WkA.nil))
  simp only [EVA, Nat.reduceAdd, Nat.reduceMul, Nat.reduceSub, Nat.reduceLeDiff, Nat.reduceLT, Nat.reduceBEq, Nat.reduceEqDiff, reduceIte, reduceCtorEq, Int.reduceLT, Int.reduceLE, Int.reduceToNat, Int.reducePow, Nat.reducePow, Int.reduceAdd, Int.reduceSub, Int.reduceNeg, Int.reduceEq, String.reduceEq, (show IntKind.i64.wrap 1 = 1 from rfl)]
  obtain ⟨v3, ch4, hg⟩ := bind_some hg
  refine ACall.wkA (args := [.dl 1 (List.map (AV.int .i64) a0) ta0, .int .i64 v1]) (c8 B w0 n a0 v1 ta0 _ _ v3 ch4  ?_) (WkA.cons (wkA.refl _) (WkA.cons (wkA.refl _) WkA.nil))
  intro tl5 tl6 H7 x8 F9 F10 D11
  have F9 := F9.low hE
  have F10 := F10.low hE
  have hE := hE.trans x8
  simp only [EVA, Nat.reduceAdd, Nat.reduceMul, Nat.reduceSub, Nat.reduceLeDiff, Nat.reduceLT, Nat.reduceBEq, Nat.reduceEqDiff, reduceIte, reduceCtorEq, Int.reduceLT, Int.reduceLE, Int.reduceToNat, Int.reducePow, Nat.reducePow, Int.reduceAdd, Int.reduceSub, Int.reduceNeg, Int.reduceEq, String.reduceEq, (show IntKind.i64.wrap 1 = 1 from rfl)]
  obtain ⟨v12, ch13, hg⟩ := bind_some hg
  refine ACall.wkA (args := [.dl 1 (List.map (AV.int .i64) a1) ta1, .int .i64 a4]) (c9 B w0 n a1 a4 ta1 _ _ v12 ch13  ?_) (WkA.cons (wkA.refl _) (WkA.cons (wkA.refl _) WkA.nil))
  intro tl14 H15 x16 F17
  have D18 := Free.ne F9 F17
  have D19 := Free.ne F10 F17
  have F9 := F9.mono x16
  have F10 := F10.mono x16
  have F17 := F17.low hE
  have hE := hE.trans x16
  simp only [EVA, Nat.reduceAdd, Nat.reduceMul, Nat.reduceSub, Nat.reduceLeDiff, Nat.reduceLT, Nat.reduceBEq, Nat.reduceEqDiff, reduceIte, reduceCtorEq, Int.reduceLT, Int.reduceLE, Int.reduceToNat, Int.reducePow, Nat.reducePow, Int.reduceAdd, Int.reduceSub, Int.reduceNeg, Int.reduceEq, String.reduceEq, (show IntKind.i64.wrap 1 = 1 from rfl)]
  obtain ⟨v20, ch21, hg⟩ := bind_some hg
  refine ACall.wkA (args := [.dl 1 (List.map (AV.int .i64) a1) ta1, .int .i64 (v3.1.length : Int)]) (c10 B w0 n a1 (v3.1.length : Int) ta1 _ _ v20 ch21  ?_) (WkA.cons (wkA.refl _) (WkA.cons (wkA.refl _) WkA.nil))
  intro tl22 H23 x24 F25
  have D26 := Free.ne F9 F25
  have D27 := Free.ne F10 F25
  have D28 := Free.ne F17 F25
  have F9 := F9.mono x24
  have F10 := F10.mono x24
  have F17 := F17.mono x24
  have F25 := F25.low hE
  have hE := hE.trans x24
  simp only [EVA, Nat.reduceAdd, Nat.reduceMul, Nat.reduceSub, Nat.reduceLeDiff, Nat.reduceLT, Nat.reduceBEq, Nat.reduceEqDiff, reduceIte, reduceCtorEq, Int.reduceLT, Int.reduceLE, Int.reduceToNat, Int.reducePow, Nat.reducePow, Int.reduceAdd, Int.reduceSub, Int.reduceNeg, Int.reduceEq, String.reduceEq, (show IntKind.i64.wrap 1 = 1 from rfl)]
  obtain ⟨v29, ch30, hg⟩ := bind_some hg
  refine ACall.wkA (args := [.int .i64 a2, .int .i64 4096]) (c7 B w0 n a2 4096 _ _ v29 ch30  ?_) (WkA.cons (wkA.refl _) (WkA.cons (wkA.refl _) WkA.nil))
  simp only [EVA, Nat.reduceAdd, Nat.reduceMul, Nat.reduceSub, Nat.reduceLeDiff, Nat.reduceLT, Nat.reduceBEq, Nat.reduceEqDiff, reduceIte, reduceCtorEq, Int.reduceLT, Int.reduceLE, Int.reduceToNat, Int.reducePow, Nat.reducePow, Int.reduceAdd, Int.reduceSub, Int.reduceNeg, Int.reduceEq, String.reduceEq, (show IntKind.i64.wrap 1 = 1 from rfl)]
  obtain ⟨v31, ch32, hg⟩ := bind_some hg
  refine ACall.wkA (args := [.int .i64 a2, .int .i64 3]) (c7 B w0 n a2 3 _ _ v31 ch32  ?_) (WkA.cons (wkA.refl _) (WkA.cons (wkA.refl _) WkA.nil))
  simp only [EVA, Nat.reduceAdd, Nat.reduceMul, Nat.reduceSub, Nat.reduceLeDiff, Nat.reduceLT, Nat.reduceBEq, Nat.reduceEqDiff, reduceIte, reduceCtorEq, Int.reduceLT, Int.reduceLE, Int.reduceToNat, Int.reducePow, Nat.reducePow, Int.reduceAdd, Int.reduceSub, Int.reduceNeg, Int.reduceEq, String.reduceEq, (show IntKind.i64.wrap 1 = 1 from rfl)]
  obtain ⟨v33, ch34, hg⟩ := bind_some hg
  refine ACall.wkA (args := [.int .i64 a4, .int .i64 (IntKind.i64.wrap ((v3.2.length : Int) + 1))]) (c7 B w0 n a4 (IntKind.i64.wrap ((v3.2.length : Int) + 1)) _ _ v33 ch34  ?_) (WkA.cons (wkA.refl _) (WkA.cons (wkA.refl _) WkA.nil))
  obtain ⟨h35, hg⟩ := guard_some hg
  simp only [EVA, Nat.reduceAdd, Nat.reduceMul, Nat.reduceSub, Nat.reduceLeDiff, Nat.reduceLT, Nat.reduceBEq, Nat.reduceEqDiff, reduceIte, reduceCtorEq, Int.reduceLT, Int.reduceLE, Int.reduceToNat, Int.reducePow, Nat.reducePow, Int.reduceAdd, Int.reduceSub, Int.reduceNeg, Int.reduceEq, String.reduceEq, eq_true h35.1, eq_true h35.2.1, eq_true h35.2.2, ← List.map_take, ← List.map_drop, List.take_length, (show IntKind.i64.wrap 1 = 1 from rfl)]
  refine AWP.wkT (a' := [.dl 1 (List.map (AV.int .i64) a0) ta0, .dl 1 (List.map (AV.int .i64) a1) ta1, .int .i64 a2, .int .i64 a3, .int .i64 a4, .undef, .undef, .undef, .undef, .undef, .bool false, .int .i64 v1, .dl 7 (List.map encS2 v3.1) tl5, .dl 7 (List.map encS2 v3.2) tl6, .dl 1 (List.map (AV.int .u64) v12) tl14, .dl 1 (List.map encL3 v20) tl22, .dl 1 [.int .i64 v29, .int .i64 a2, .int .i64 (IntKind.i64.wrap (v31 - 1))] .full, .dl 1 [.int .i64 v1, .int .i64 v1, .int .i64 a3] .full, .int .i64 v33, .dl 1 [.dl 7 (List.map encS2 v3.2) .none, .dl 7 (List.map encS2 v3.2) .none, .dl 7 (List.map encS2 (List.take (Int.toNat v33) v3.2)) .none] .full, .int .i64 0, .undef, .undef, .undef, .undef, .int .i64 a3, .int .i64 v1, .tup [.dl 7 (List.map encS2 v3.1) tl5, .dl 7 (List.map encS2 v3.2) tl6], .dl 1 (List.map (AV.int .i64) a0) ta0, .int .i64 v1, .tup [.dl 7 (List.map encS2 v3.1) tl5, .dl 7 (List.map encS2 v3.2) tl6], .dl 7 (List.map encS2 v3.1) tl5, .dl 7 (List.map encS2 v3.2) tl6, .dl 1 (List.map (AV.int .i64) a1) ta1, .int .i64 a4, .dl 1 (List.map (AV.int .u64) v12) tl14, .dl 1 (List.map (AV.int .i64) a1) ta1, .dl 7 (List.map encS2 v3.1) tl5, .int .i64 (v3.1.length : Int), .dl 1 (List.map encL3 v20) tl22, .int .i64 a2, .int .i64 v29, .int .i64 a2, .int .i64 a2, .int .i64 v31, .int .i64 (IntKind.i64.wrap (v31 - 1)), .dl 1 [.int .i64 v29, .int .i64 a2, .int .i64 (IntKind.i64.wrap (v31 - 1))] .full, .int .i64 v1, .int .i64 v1, .int .i64 a3, .dl 1 [.int .i64 v1, .int .i64 v1, .int .i64 a3] .full, .int .i64 a4, .dl 7 (List.map encS2 v3.2) tl6, .int .i64 (v3.2.length : Int), .int .i64 (IntKind.i64.wrap ((v3.2.length : Int) + 1)), .int .i64 v33, .dl 7 (List.map encS2 v3.2) tl6, .dl 7 (List.map encS2 v3.2) tl6, .dl 7 (List.map encS2 v3.2) tl6, .int .i64 v33, .dl 7 (List.map encS2 (List.take (Int.toNat v33) v3.2)) (cutTail 0 (Int.toNat v33) v3.2.length none tl6), .dl 1 [.dl 7 (List.map encS2 v3.2) tl6, .dl 7 (List.map encS2 v3.2) tl6, .dl 7 (List.map encS2 (List.take (Int.toNat v33) v3.2)) (cutTail 0 (Int.toNat v33) v3.2.length none tl6)] .full, .undef, .undef, .undef, .undef, .undef, .undef, .undef, .undef, .undef, .undef, .undef, .undef, .undef, .undef, .undef, .undef, .undef, .undef, .undef, .undef, .undef, .undef, .undef, .undef, .undef, .undef, .undef, .undef, .undef, .undef, .undef, .undef, .undef, .undef, .undef, .undef, .undef, .undef, .undef, .undef, .undef, .undef, .undef, .undef, .undef, .undef, .undef, .undef, .undef, .undef, .undef, .undef, .undef, .undef, .undef, .undef]) (WkA.cons (wkA.refl _) (WkA.cons (wkA.refl _) (WkA.cons (wkA.refl _) (WkA.cons (wkA.refl _) (WkA.cons (wkA.refl _) (WkA.cons (wkA.refl _) (WkA.cons (wkA.refl _) (WkA.cons (wkA.refl _) (WkA.cons (wkA.refl _) (WkA.cons (wkA.refl _) (WkA.cons (wkA.refl _) (WkA.cons (wkA.refl _) (WkA.cons (wkA.refl _) (WkA.cons (wkA.refl _) (WkA.cons (wkA.refl _) (WkA.cons (wkA.refl _) (WkA.cons (wkA.refl _) (WkA.cons (wkA.refl _) (WkA.cons (wkA.refl _) (WkA.cons (.inl (wkD.elems (es := [.dl 7 (List.map encS2 v3.2) .none, .dl 7 (List.map encS2 v3.2) .none, .dl 7 (List.map encS2 (List.take (Int.toNat v33) v3.2)) .none]) (es' := [.dl 7 (List.map encS2 v3.2) tl6, .dl 7 (List.map encS2 v3.2) tl6, .dl 7 (List.map encS2 (List.take (Int.toNat v33) v3.2)) (cutTail 0 (Int.toNat v33) v3.2.length none tl6)]) rfl (by simp [AV.cells]) (by repeat' first | exact Wk.nil | apply Wk.u | apply Wk.r | apply Wk.cons (wkV.tail _ _ _)))) (WkA.cons (wkA.refl _) (WkA.cons (wkA.refl _) (WkA.cons (wkA.refl _) (WkA.cons (wkA.refl _) (WkA.cons (wkA.refl _) (WkA.cons (wkA.refl _) (WkA.cons (wkA.refl _) (WkA.cons (wkA.refl _) (WkA.cons (wkA.refl _) (WkA.cons (wkA.refl _) (WkA.cons (wkA.refl _) (WkA.cons (wkA.refl _) (WkA.cons (wkA.refl _) (WkA.cons (wkA.refl _) (WkA.cons (wkA.refl _) (WkA.cons (wkA.refl _) (WkA.cons (wkA.refl _) (WkA.cons (wkA.refl _) (WkA.cons (wkA.refl _) (WkA.cons (wkA.refl _) (WkA.cons (wkA.refl _) (WkA.cons (wkA.refl _) (WkA.cons (wkA.refl _) (WkA.cons (wkA.refl _) (WkA.cons (wkA.refl _) (WkA.cons (wkA.refl _) (WkA.cons (wkA.refl _) (WkA.cons (wkA.refl _) (WkA.cons (wkA.refl _) (WkA.cons (wkA.refl _) (WkA.cons (wkA.refl _) (WkA.cons (wkA.refl _) (WkA.cons (wkA.refl _) (WkA.cons (wkA.refl _) (WkA.cons (wkA.refl _) (WkA.cons (wkA.refl _) (WkA.cons (wkA.refl _) (WkA.cons (wkA.refl _) (WkA.cons (wkA.refl _) (WkA.cons (wkA.refl _) (WkA.cons (wkA.refl _) (WkA.cons (wkA.refl _) (WkA.cons (wkA.refl _) (WkA.cons (wkA.refl _) (WkA.cons (wkA.refl _) (WkA.cons (wkA.refl _) (WkA.cons (wkA.refl _) (WkA.cons (wkA.refl _) (WkA.cons (wkA.refl _) (WkA.cons (wkA.refl _) (WkA.cons (wkA.refl _) (WkA.cons (wkA.refl _) (WkA.cons (wkA.refl _) (WkA.cons (wkA.refl _) (WkA.cons (wkA.refl _) (WkA.cons (wkA.refl _) (WkA.cons (wkA.refl _) (WkA.cons (wkA.refl _) (WkA.cons (wkA.refl _) (WkA.cons (wkA.refl _) (WkA.cons (wkA.refl _) (WkA.cons (wkA.refl _) (WkA.cons (wkA.refl _) (WkA.cons (wkA.refl _) (WkA.cons (wkA.refl _) (WkA.cons (wkA.refl _) (WkA.cons (wkA.refl _) (WkA.cons (wkA.refl _) (WkA.cons (wkA.refl _) (WkA.cons (wkA.refl _) (WkA.cons (wkA.refl _) (WkA.cons (wkA.refl _) (WkA.cons (wkA.refl _) (WkA.cons (wkA.refl _) (WkA.cons (wkA.refl _) (WkA.cons (wkA.refl _) (WkA.cons (wkA.refl _) (WkA.cons (wkA.refl _) (WkA.cons (wkA.refl _) (WkA.cons (wkA.refl _) (WkA.cons (wkA.refl _) (WkA.cons (wkA.refl _) (WkA.cons (wkA.refl _) (WkA.cons (wkA.refl _) (WkA.cons (wkA.refl _) (WkA.cons (wkA.refl _) (WkA.cons (wkA.refl _) (WkA.cons (wkA.refl _) (WkA.cons (wkA.refl _) (WkA.cons (wkA.refl _) (WkA.cons (wkA.refl _) (WkA.cons (wkA.refl _) (WkA.cons (wkA.refl _) (WkA.cons (wkA.refl _) (WkA.cons (wkA.refl _) (WkA.cons (wkA.refl _) (WkA.cons (wkA.refl _) (WkA.cons (wkA.refl _) WkA.nil)))))))))))))))))))))))))))))))))))))))))))))))))))))))))))))))))))))))))))))))))))))))))))))))))))))))))))))))))))))) ?_
  refine AWP.loop (σ := Nat × Int) (fun s => [.undef, .undef, .undef, .undef, .undef, .undef, .undef, .undef, .undef, .undef, .undef, .undef, .dl 7 (List.map encS2 v3.1) tl5, .undef, .dl 1 (List.map (AV.int .u64) v12) tl14, .dl 1 (List.map encL3 v20) tl22, .dl 1 [.int .i64 v29, .int .i64 a2, .int .i64 (IntKind.i64.wrap (v31 - 1))] .full, .dl 1 [.int .i64 v1, .int .i64 v1, .int .i64 a3] .full, .undef, .dl 1 [.dl 7 (List.map encS2 v3.2) .none, .dl 7 (List.map encS2 v3.2) .none, .dl 7 (List.map encS2 (List.take (Int.toNat v33) v3.2)) .none] .full, .int .i64 s.2, .undef, .undef, .undef, .undef, .undef, .undef, .undef, .undef, .undef, .undef, .undef, .undef, .undef, .undef, .undef, .undef, .undef, .undef, .undef, .undef, .undef, .undef, .undef, .undef, .undef, .undef, .undef, .undef, .undef, .undef, .undef, .undef, .undef, .undef, .undef, .undef, .undef, .undef, .undef, .undef, .undef, .undef, .undef, .undef, .undef, .undef, .undef, .undef, .undef, .undef, .undef, .undef, .undef, .undef, .undef, .undef, .undef, .undef, .undef, .undef, .undef, .undef, .undef, .undef, .undef, .undef, .undef, .undef, .undef, .undef, .undef, .undef, .undef, .undef, .undef, .undef, .undef, .undef, .undef, .undef, .undef, .undef, .undef, .undef, .undef, .undef, .undef, .undef, .undef, .undef, .undef, .undef, .undef, .undef, .undef, .undef, .undef]) (fun s H' => l3_0 n a2 a3 v1 v3 v12 v20 v29 v31 v33 s.1 s.2 = some r ∧ Ext H H' ∧ Free H H' tl5 ∧ Free H H' tl14 ∧ Free H H' tl22 ∧ tlNe tl5 tl14 ∧ tlNe tl5 tl22 ∧ tlNe tl14 tl22) (fun s => s.1) ⟨⟨n, 0⟩, (by repeat' first | exact Wk.nil | apply Wk.u | apply Wk.r), ⟨hg, hE, F9, F17, F25, D18.symm, D26.symm, D28.symm⟩⟩ ?_
  rintro ⟨k37, x36⟩ H38 ⟨hg, hE, F39, F40, F41, D42, D43, D44⟩ _
  try dsimp only at hg F39 F40 F41 D42 D43 D44
  cases k37 with
  | zero => simp only [l3_0, reduceCtorEq] at hg
  | succ k37 =>
    rw [l3_0] at hg
    refine eawp_sound noY_sound _ _ _ _ ?_
    simp only [EVA, Nat.reduceAdd, Nat.reduceMul, Nat.reduceSub, Nat.reduceLeDiff, Nat.reduceLT, Nat.reduceBEq, Nat.reduceEqDiff, reduceIte, reduceCtorEq, Int.reduceLT, Int.reduceLE, Int.reduceToNat, Int.reducePow, Nat.reducePow, Int.reduceAdd, Int.reduceSub, Int.reduceNeg, Int.reduceEq, String.reduceEq, eq_true h35.1, eq_true h35.2.1, eq_true h35.2.2, ← List.map_take, ← List.map_drop, List.take_length, (show IntKind.i64.wrap 1 = 1 from rfl)]
    rcases ite_some hg with ⟨h45, hg⟩ | ⟨h45, hg⟩
    · refine Br.yes h45 ?_
      simp only [EVA, Nat.reduceAdd, Nat.reduceMul, Nat.reduceSub, Nat.reduceLeDiff, Nat.reduceLT, Nat.reduceBEq, Nat.reduceEqDiff, reduceIte, reduceCtorEq, Int.reduceLT, Int.reduceLE, Int.reduceToNat, Int.reducePow, Nat.reducePow, Int.reduceAdd, Int.reduceSub, Int.reduceNeg, Int.reduceEq, String.reduceEq, eq_true h35.1, eq_true h35.2.1, eq_true h35.2.2, ← List.map_take, ← List.map_drop, List.take_length, eq_true h45, (show IntKind.i64.wrap 1 = 1 from rfl)]
      refine AWP.drawL noY_sound (some 22) [[], [], [0, 1], [0, 1, 2], [], [], [4, 5], [4, 5, 6], [], [8], [], [], [10, 11], [10, 11, 12], [8, 9, 10, 11, 12, 13], [], [], [8, 9, 10, 11, 12, 13, 14, 16], [0, 1, 2, 3, 4, 5, 6, 7, 8, 9, 10, 11, 12, 13, 14, 15, 16, 17], [0, 1, 2, 3, 4, 5, 6, 7, 8, 9, 10, 11, 12, 13, 14, 15, 16, 17, 18], [0, 1, 2, 3, 4, 5, 6, 7, 8, 9, 10, 11, 12, 13, 14, 15, 16, 17, 18, 19], [0, 1, 2, 3, 4, 5, 6, 7, 8, 9, 10, 11, 12, 13, 14, 15, 16, 17, 18, 19], [], [0, 1, 2, 3, 4, 5, 6, 7, 8, 9, 10, 11, 12, 13, 14, 15, 16, 17, 18, 19, 20, 22], [0, 1, 2, 3, 4, 5, 6, 7, 8, 9, 10, 11, 12, 13, 14, 15, 16, 17, 18, 19, 20, 21, 22, 23]] [⟨0, false, []⟩, ⟨1, false, []⟩, ⟨2, false, []⟩, ⟨3, false, []⟩, ⟨4, false, []⟩, ⟨5, false, []⟩, ⟨6, false, []⟩, ⟨7, false, []⟩, ⟨8, false, []⟩, ⟨10, false, []⟩, ⟨11, false, []⟩, ⟨12, false, []⟩, ⟨13, false, []⟩, ⟨15, false, []⟩, ⟨16, false, []⟩, ⟨9, true, [3, 7, 13]⟩, ⟨14, true, [3, 7]⟩, ⟨17, true, [3, 7]⟩, ⟨18, true, []⟩, ⟨19, false, []⟩, ⟨20, false, []⟩, ⟨21, false, []⟩, ⟨22, true, [3, 7, 13]⟩, ⟨23, true, []⟩, ⟨24, false, []⟩] [0, 1, 2, 3, 4, 5, 6, 7, 8, 9, 10, 11, 12, 13, 14, 15, 16, 17, 18, 19, 20, 21, 22, 23, 24] [0, 1, 2, 3, 4, 5, 6, 7, 8, 9, 10, 11, 12, 13, 14, 15, 16, 17, 18, 19, 20, 22, 23, 21, 24] (by kernel_rfl) (fun i o e q1 q2 q3 => by cases q1; have q2 := Option.some.inj (q2 : some _ = some o); subst q2; cases q3; exact ⟨_, _, ty33, rfl⟩) ?_
      obtain ⟨h46, hg⟩ := guard_some hg
      have q47 : List.getD ([.int .i64 v29, .int .i64 a2, .int .i64 (IntKind.i64.wrap (v31 - 1))]) (Int.toNat x36) AV.undef = (AV.int .i64) (rd ([v29, a2, IntKind.i64.wrap (v31 - 1)] : List Int) x36) := rd_map (l := ([v29, a2, IntKind.i64.wrap (v31 - 1)] : List Int)) (i := x36) (AV.int .i64) ⟨h46.1, by simp only [List.length_cons, List.length_nil]; omega⟩
      obtain ⟨h48, hg⟩ := guard_some hg
      have q49 : List.getD ([.int .i64 v1, .int .i64 v1, .int .i64 a3]) (Int.toNat x36) AV.undef = (AV.int .i64) (rd ([v1, v1, a3] : List Int) x36) := rd_map (l := ([v1, v1, a3] : List Int)) (i := x36) (AV.int .i64) ⟨h48.1, by simp only [List.length_cons, List.length_nil]; omega⟩
      obtain ⟨h50, hg⟩ := guard_some hg
      have q51 : List.getD ([.dl 7 (List.map encS2 v3.2) .none, .dl 7 (List.map encS2 v3.2) .none, .dl 7 (List.map encS2 (List.take (Int.toNat v33) v3.2)) .none]) (Int.toNat x36) AV.undef = encL9 (rd ([v3.2, v3.2, List.take (Int.toNat v33) v3.2] : List (List S2)) x36) := rd_map (l := ([v3.2, v3.2, List.take (Int.toNat v33) v3.2] : List (List S2))) (i := x36) encL9 ⟨h50.1, by simp only [List.length_cons, List.length_nil]; omega⟩
      simp only [EVA, Nat.reduceAdd, Nat.reduceMul, Nat.reduceSub, Nat.reduceLeDiff, Nat.reduceLT, Nat.reduceBEq, Nat.reduceEqDiff, reduceIte, reduceCtorEq, Int.reduceLT, Int.reduceLE, Int.reduceToNat, Int.reducePow, Nat.reducePow, Int.reduceAdd, Int.reduceSub, Int.reduceNeg, Int.reduceEq, String.reduceEq, eq_true h35.1, eq_true h35.2.1, eq_true h35.2.2, ← List.map_take, ← List.map_drop, List.take_length, eq_true h45, eq_true h46.1, eq_true h46.2, q47, eq_true h48.1, eq_true h48.2, q49, eq_true h50.1, eq_true h50.2, q51, (show IntKind.i64.wrap 1 = 1 from rfl)]
      obtain ⟨v52, ch53, hg⟩ := bind_some hg
      refine ACall.wkA (args := [.dl 7 (List.map encS2 v3.1) tl5]) (c12 B w0 n v3.1 tl5 _ _ v52 ch53  ?_) (WkA.cons (wkA.refl _) WkA.nil)
      intro tl54 H55 x56 F57
      have D58 := Free.ne F39 F57
      have D59 := Free.ne F40 F57
      have D60 := Free.ne F41 F57
      have F39 := F39.mono x56
      have F40 := F40.mono x56
      have F41 := F41.mono x56
      have F57 := F57.low hE
      have hE := hE.trans x56
      simp only [EVA, Nat.reduceAdd, Nat.reduceMul, Nat.reduceSub, Nat.reduceLeDiff, Nat.reduceLT, Nat.reduceBEq, Nat.reduceEqDiff, reduceIte, reduceCtorEq, Int.reduceLT, Int.reduceLE, Int.reduceToNat, Int.reducePow, Nat.reducePow, Int.reduceAdd, Int.reduceSub, Int.reduceNeg, Int.reduceEq, String.reduceEq, eq_true h35.1, eq_true h35.2.1, eq_true h35.2.2, ← List.map_take, ← List.map_drop, List.take_length, eq_true h45, eq_true h46.1, eq_true h46.2, q47, eq_true h48.1, eq_true h48.2, q49, eq_true h50.1, eq_true h50.2, q51, (show IntKind.i64.wrap 1 = 1 from rfl)]
      obtain ⟨v61, ch62, hg⟩ := bind_some hg
      refine ACall.wkA (args := [.dl 7 (List.map encS2 (rd ([v3.2, v3.2, List.take (Int.toNat v33) v3.2] : List (List S2)) x36)) .none]) (c12 B w0 n (rd ([v3.2, v3.2, List.take (Int.toNat v33) v3.2] : List (List S2)) x36) .none _ _ v61 ch62  ?_) (WkA.cons (wkA.refl _) WkA.nil)
      intro tl63 H64 x65 F66
      have D67 := Free.ne F39 F66
      have D68 := Free.ne F40 F66
      have D69 := Free.ne F41 F66
      have D70 := Free.ne F57 F66
      have F39 := F39.mono x65
      have F40 := F40.mono x65
      have F41 := F41.mono x65
      have F57 := F57.mono x65
      have F66 := F66.low hE
      have hE := hE.trans x65
      simp only [EVA, Nat.reduceAdd, Nat.reduceMul, Nat.reduceSub, Nat.reduceLeDiff, Nat.reduceLT, Nat.reduceBEq, Nat.reduceEqDiff, reduceIte, reduceCtorEq, Int.reduceLT, Int.reduceLE, Int.reduceToNat, Int.reducePow, Nat.reducePow, Int.reduceAdd, Int.reduceSub, Int.reduceNeg, Int.reduceEq, String.reduceEq, eq_true h35.1, eq_true h35.2.1, eq_true h35.2.2, ← List.map_take, ← List.map_drop, List.take_length, eq_true h45, eq_true h46.1, eq_true h46.2, q47, eq_true h48.1, eq_true h48.2, q49, eq_true h50.1, eq_true h50.2, q51, (show IntKind.i64.wrap 1 = 1 from rfl)]
      obtain ⟨v71, ch72, hg⟩ := bind_some hg
      refine ACall.wkA (args := [.dl 1 (List.map encL3 v20) tl22]) (c13 B w0 n v20 tl22 _ _ v71 ch72  ?_) (WkA.cons (wkA.refl _) WkA.nil)
      intro tl73 H74 x75 F76
      have D77 := Free.ne F39 F76
      have D78 := Free.ne F40 F76
      have D79 := Free.ne F41 F76
      have D80 := Free.ne F57 F76
      have D81 := Free.ne F66 F76
      have F39 := F39.mono x75
      have F40 := F40.mono x75
      have F41 := F41.mono x75
      have F57 := F57.mono x75
      have F66 := F66.mono x75
      have F76 := F76.low hE
      have hE := hE.trans x75
      simp only [EVA, Nat.reduceAdd, Nat.reduceMul, Nat.reduceSub, Nat.reduceLeDiff, Nat.reduceLT, Nat.reduceBEq, Nat.reduceEqDiff, reduceIte, reduceCtorEq, Int.reduceLT, Int.reduceLE, Int.reduceToNat, Int.reducePow, Nat.reducePow, Int.reduceAdd, Int.reduceSub, Int.reduceNeg, Int.reduceEq, String.reduceEq, eq_true h35.1, eq_true h35.2.1, eq_true h35.2.2, ← List.map_take, ← List.map_drop, List.take_length, eq_true h45, eq_true h46.1, eq_true h46.2, q47, eq_true h48.1, eq_true h48.2, q49, eq_true h50.1, eq_true h50.2, q51, (show IntKind.i64.wrap 1 = 1 from rfl)]
      obtain ⟨v82, ch83, hg⟩ := bind_some hg
      refine ACall.wkA (args := [.int .i64 (rd ([v29, a2, IntKind.i64.wrap (v31 - 1)] : List Int) x36), .int .i64 (rd ([v1, v1, a3] : List Int) x36), .dl 8 (List.map encS6 v52) tl54, .dl 8 (List.map encS6 v61) tl63, .dl 1 (List.map (AV.int .u64) v12) tl14, .dl 1 (List.map encL3 v71) tl73]) (c11 B w0 n (rd ([v29, a2, IntKind.i64.wrap (v31 - 1)] : List Int) x36) (rd ([v1, v1, a3] : List Int) x36) v52 v61 v12 v71 tl54 tl63 tl14 tl73 _ _ v82 ch83  ?_) (WkA.cons (wkA.refl _) (WkA.cons (wkA.refl _) (WkA.cons (wkA.refl _) (WkA.cons (wkA.refl _) (WkA.cons (wkA.refl _) (WkA.cons (wkA.refl _) WkA.nil))))))
      intro H84 x85
      have F39 := F39.mono x85
      have F40 := F40.mono x85
      have F41 := F41.mono x85
      have F57 := F57.mono x85
      have F66 := F66.mono x85
      have F76 := F76.mono x85
      have hE := hE.trans x85
      simp only [EVA, Nat.reduceAdd, Nat.reduceMul, Nat.reduceSub, Nat.reduceLeDiff, Nat.reduceLT, Nat.reduceBEq, Nat.reduceEqDiff, reduceIte, reduceCtorEq, Int.reduceLT, Int.reduceLE, Int.reduceToNat, Int.reducePow, Nat.reducePow, Int.reduceAdd, Int.reduceSub, Int.reduceNeg, Int.reduceEq, String.reduceEq, eq_true h35.1, eq_true h35.2.1, eq_true h35.2.2, ← List.map_take, ← List.map_drop, List.take_length, eq_true h45, eq_true h46.1, eq_true h46.2, q47, eq_true h48.1, eq_true h48.2, q49, eq_true h50.1, eq_true h50.2, q51, (show IntKind.i64.wrap 1 = 1 from rfl)]
      refine eop_alloc_go (H0 := H) ty33 rfl rfl hE ?_
      intro o86 H87 hE xo86 g_o86 f_o86 n_o86
      have F39 := F39.mono xo86
      have F40 := F40.mono xo86
      have F41 := F41.mono xo86
      have F57 := F57.mono xo86
      have F66 := F66.mono xo86
      have F76 := F76.mono xo86
      have f_o86 : H87[o86]? = some (.cells ([.int .i64 0, .int .i64 0, .dl 0 [] .full, .dl 0 [] .full, .dl 0 [] .full, .dl 0 [] .full, .dl 0 [] .full])) := f_o86
      simp only [EVA, Nat.reduceAdd, Nat.reduceMul, Nat.reduceSub, Nat.reduceLeDiff, Nat.reduceLT, Nat.reduceBEq, Nat.reduceEqDiff, reduceIte, reduceCtorEq, Int.reduceLT, Int.reduceLE, Int.reduceToNat, Int.reducePow, Nat.reducePow, Int.reduceAdd, Int.reduceSub, Int.reduceNeg, Int.reduceEq, String.reduceEq, eq_true h35.1, eq_true h35.2.1, eq_true h35.2.2, ← List.map_take, ← List.map_drop, List.take_length, eq_true h45, eq_true h46.1, eq_true h46.2, q47, eq_true h48.1, eq_true h48.2, q49, eq_true h50.1, eq_true h50.2, q51, f_o86, (show IntKind.i64.wrap 1 = 1 from rfl)]
      refine eop_store_go (H0 := H) (id := o86) (off := 0) (v := .agg [.int .i64 v82.1.c0, .int .i64 v82.1.c1, .dl 1 (List.map (AV.int .i64) v82.1.c2) .none, .dl 1 (List.map (AV.int .i64) v82.1.c3) .none, .dl 1 (List.map (AV.int .u64) v82.1.c4) .none, .dl 1 (List.map (AV.int .u64) v82.1.c5) .none, .dl 1 (List.map (AV.int .u64) v82.1.c6) .none]) rfl rfl f_o86 ty33 rfl rfl (Nat.le_of_ble_eq_true rfl) hE g_o86 ?_
      intro H88 hE f9_o86 p89 l9
      have F39 := F39.keep f_o86 p89
      have F40 := F40.keep f_o86 p89
      have F41 := F41.keep f_o86 p89
      have F57 := F57.keep f_o86 p89
      have F66 := F66.keep f_o86 p89
      have F76 := F76.keep f_o86 p89
      have f_o86 : H88[o86]? = some (.cells ([.int .i64 v82.1.c0, .int .i64 v82.1.c1, .dl 1 (List.map (AV.int .i64) v82.1.c2) .none, .dl 1 (List.map (AV.int .i64) v82.1.c3) .none, .dl 1 (List.map (AV.int .u64) v82.1.c4) .none, .dl 1 (List.map (AV.int .u64) v82.1.c5) .none, .dl 1 (List.map (AV.int .u64) v82.1.c6) .none])) := f9_o86
      simp only [EVA, Nat.reduceAdd, Nat.reduceMul, Nat.reduceSub, Nat.reduceLeDiff, Nat.reduceLT, Nat.reduceBEq, Nat.reduceEqDiff, reduceIte, reduceCtorEq, Int.reduceLT, Int.reduceLE, Int.reduceToNat, Int.reducePow, Nat.reducePow, Int.reduceAdd, Int.reduceSub, Int.reduceNeg, Int.reduceEq, String.reduceEq, eq_true h35.1, eq_true h35.2.1, eq_true h35.2.2, ← List.map_take, ← List.map_drop, List.take_length, eq_true h45, eq_true h46.1, eq_true h46.2, q47, eq_true h48.1, eq_true h48.2, q49, eq_true h50.1, eq_true h50.2, q51, f_o86, (show IntKind.i64.wrap 1 = 1 from rfl)]
      refine AWP.drawL noY_sound (some 19) [[], [], [0, 1], [0, 1, 2], [], [], [4, 5], [4, 5, 6], [], [], [], [9, 10], [9, 10, 11], [], [], [0, 1, 2, 3, 4, 5, 6, 7, 8, 9, 10, 11, 12, 13, 14], [0, 1, 2, 3, 4, 5, 6, 7, 8, 9, 10, 11, 12, 13, 14, 15], [0, 1, 2, 3, 4, 5, 6, 7, 8, 9, 10, 11, 12, 13, 14, 15, 16], [0, 1, 2, 3, 4, 5, 6, 7, 8, 9, 10, 11, 12, 13, 14, 15, 16], [], [0, 1, 2, 3, 4, 5, 6, 7, 8, 9, 10, 11, 12, 13, 14, 15, 16, 17, 19], [0, 1, 2, 3, 4, 5, 6, 7, 8, 9, 10, 11, 12, 13, 14, 15, 16, 17, 18, 19, 20]] [⟨0, false, []⟩, ⟨1, false, []⟩, ⟨2, false, []⟩, ⟨3, false, []⟩, ⟨4, false, []⟩, ⟨5, false, []⟩, ⟨6, false, []⟩, ⟨7, false, []⟩, ⟨8, false, []⟩, ⟨9, false, []⟩, ⟨10, false, []⟩, ⟨11, false, []⟩, ⟨12, false, []⟩, ⟨13, false, []⟩, ⟨14, false, []⟩, ⟨15, true, []⟩, ⟨16, false, []⟩, ⟨17, false, []⟩, ⟨18, false, []⟩, ⟨19, true, [3, 7, 12]⟩, ⟨20, true, []⟩, ⟨21, false, []⟩] [0, 1, 2, 3, 4, 5, 6, 7, 8, 9, 10, 11, 12, 13, 14, 15, 16, 17, 18, 19, 20, 21] [0, 1, 2, 3, 4, 5, 6, 7, 8, 9, 10, 11, 12, 13, 14, 15, 16, 17, 19, 20, 18, 21] (by kernel_rfl) (fun i o e q1 q2 q3 => by cases q1; have q2 := Option.some.inj (q2 : some _ = some o); subst q2; cases q3; exact ⟨_, _, ty41, rfl⟩) ?_
      obtain ⟨h90, hg⟩ := guard_some hg
      have q91 : List.getD ([.int .i64 v29, .int .i64 a2, .int .i64 (IntKind.i64.wrap (v31 - 1))]) (Int.toNat x36) AV.undef = (AV.int .i64) (rd ([v29, a2, IntKind.i64.wrap (v31 - 1)] : List Int) x36) := rd_map (l := ([v29, a2, IntKind.i64.wrap (v31 - 1)] : List Int)) (i := x36) (AV.int .i64) ⟨h90.1, by simp only [List.length_cons, List.length_nil]; omega⟩
      obtain ⟨h92, hg⟩ := guard_some hg
      have q93 : List.getD ([.int .i64 v1, .int .i64 v1, .int .i64 a3]) (Int.toNat x36) AV.undef = (AV.int .i64) (rd ([v1, v1, a3] : List Int) x36) := rd_map (l := ([v1, v1, a3] : List Int)) (i := x36) (AV.int .i64) ⟨h92.1, by simp only [List.length_cons, List.length_nil]; omega⟩
      obtain ⟨h94, hg⟩ := guard_some hg
      have q95 : List.getD ([.dl 7 (List.map encS2 v3.2) .none, .dl 7 (List.map encS2 v3.2) .none, .dl 7 (List.map encS2 (List.take (Int.toNat v33) v3.2)) .none]) (Int.toNat x36) AV.undef = encL9 (rd ([v3.2, v3.2, List.take (Int.toNat v33) v3.2] : List (List S2)) x36) := rd_map (l := ([v3.2, v3.2, List.take (Int.toNat v33) v3.2] : List (List S2))) (i := x36) encL9 ⟨h94.1, by simp only [List.length_cons, List.length_nil]; omega⟩
      simp only [EVA, Nat.reduceAdd, Nat.reduceMul, Nat.reduceSub, Nat.reduceLeDiff, Nat.reduceLT, Nat.reduceBEq, Nat.reduceEqDiff, reduceIte, reduceCtorEq, Int.reduceLT, Int.reduceLE, Int.reduceToNat, Int.reducePow, Nat.reducePow, Int.reduceAdd, Int.reduceSub, Int.reduceNeg, Int.reduceEq, String.reduceEq, eq_true h35.1, eq_true h35.2.1, eq_true h35.2.2, ← List.map_take, ← List.map_drop, List.take_length, eq_true h45, eq_true h46.1, eq_true h46.2, q47, eq_true h48.1, eq_true h48.2, q49, eq_true h50.1, eq_true h50.2, q51, eq_true h90.1, eq_true h90.2, q91, eq_true h92.1, eq_true h92.2, q93, eq_true h94.1, eq_true h94.2, q95, f_o86, (show IntKind.i64.wrap 1 = 1 from rfl)]
      obtain ⟨v96, ch97, hg⟩ := bind_some hg
      refine ACall.wkA (args := [.int .i64 (rd ([v29, a2, IntKind.i64.wrap (v31 - 1)] : List Int) x36), .int .i64 (rd ([v1, v1, a3] : List Int) x36), .dl 7 (List.map encS2 v3.1) tl5, .dl 7 (List.map encS2 (rd ([v3.2, v3.2, List.take (Int.toNat v33) v3.2] : List (List S2)) x36)) .none, .dl 1 (List.map (AV.int .u64) v12) tl14, .dl 1 (List.map encL3 v20) tl22]) (c14 B w0 n (rd ([v29, a2, IntKind.i64.wrap (v31 - 1)] : List Int) x36) (rd ([v1, v1, a3] : List Int) x36) v3.1 (rd ([v3.2, v3.2, List.take (Int.toNat v33) v3.2] : List (List S2)) x36) v12 v20 tl5 .none tl14 tl22 _ _ v96 ch97  ?_) (WkA.cons (wkA.refl _) (WkA.cons (wkA.refl _) (WkA.cons (wkA.refl _) (WkA.cons (wkA.refl _) (WkA.cons (wkA.refl _) (WkA.cons (wkA.refl _) WkA.nil))))))
      intro H98 x99
      have F39 := F39.mono x99
      have F40 := F40.mono x99
      have F41 := F41.mono x99
      have F57 := F57.mono x99
      have F66 := F66.mono x99
      have F76 := F76.mono x99
      have f_o86 := x99.2 _ _ f_o86
      have hE := hE.trans x99
      simp only [EVA, Nat.reduceAdd, Nat.reduceMul, Nat.reduceSub, Nat.reduceLeDiff, Nat.reduceLT, Nat.reduceBEq, Nat.reduceEqDiff, reduceIte, reduceCtorEq, Int.reduceLT, Int.reduceLE, Int.reduceToNat, Int.reducePow, Nat.reducePow, Int.reduceAdd, Int.reduceSub, Int.reduceNeg, Int.reduceEq, String.reduceEq, eq_true h35.1, eq_true h35.2.1, eq_true h35.2.2, ← List.map_take, ← List.map_drop, List.take_length, eq_true h45, eq_true h46.1, eq_true h46.2, q47, eq_true h48.1, eq_true h48.2, q49, eq_true h50.1, eq_true h50.2, q51, eq_true h90.1, eq_true h90.2, q91, eq_true h92.1, eq_true h92.2, q93, eq_true h94.1, eq_true h94.2, q95, f_o86, (show IntKind.i64.wrap 1 = 1 from rfl)]
      refine eop_alloc_go (H0 := H) ty41 rfl rfl hE ?_
      intro o100 H101 hE xo100 g_o100 f_o100 n_o100
      have ne_o86_o100 := n_o100 _ _ f_o86
      have f_o86 := xo100.2 _ _ f_o86
      have F39 := F39.mono xo100
      have F40 := F40.mono xo100
      have F41 := F41.mono xo100
      have F57 := F57.mono xo100
      have F66 := F66.mono xo100
      have F76 := F76.mono xo100
      have f_o100 : H101[o100]? = some (.cells ([.int .i64 0, .int .i64 0, .dl 0 [] .full, .dl 0 [] .full, .dl 0 [] .full, .dl 0 [] .full, .dl 0 [] .full])) := f_o100
      simp only [EVA, Nat.reduceAdd, Nat.reduceMul, Nat.reduceSub, Nat.reduceLeDiff, Nat.reduceLT, Nat.reduceBEq, Nat.reduceEqDiff, reduceIte, reduceCtorEq, Int.reduceLT, Int.reduceLE, Int.reduceToNat, Int.reducePow, Nat.reducePow, Int.reduceAdd, Int.reduceSub, Int.reduceNeg, Int.reduceEq, String.reduceEq, eq_true h35.1, eq_true h35.2.1, eq_true h35.2.2, ← List.map_take, ← List.map_drop, List.take_length, eq_true h45, eq_true h46.1, eq_true h46.2, q47, eq_true h48.1, eq_true h48.2, q49, eq_true h50.1, eq_true h50.2, q51, eq_true h90.1, eq_true h90.2, q91, eq_true h92.1, eq_true h92.2, q93, eq_true h94.1, eq_true h94.2, q95, f_o86, f_o100, (show IntKind.i64.wrap 1 = 1 from rfl)]
      refine eop_store_go (H0 := H) (id := o100) (off := 0) (v := .agg [.int .i64 v96.1.c0, .int .i64 v96.1.c1, .dl 1 (List.map (AV.int .i64) v96.1.c2) .none, .dl 1 (List.map (AV.int .i64) v96.1.c3) .none, .dl 1 (List.map (AV.int .u64) v96.1.c4) .none, .dl 1 (List.map (AV.int .u64) v96.1.c5) .none, .dl 1 (List.map (AV.int .u64) v96.1.c6) .none]) rfl rfl f_o100 ty41 rfl rfl (Nat.le_of_ble_eq_true rfl) hE g_o100 ?_
      intro H102 hE f9_o100 p103 l9
      have F39 := F39.keep f_o100 p103
      have F40 := F40.keep f_o100 p103
      have F41 := F41.keep f_o100 p103
      have F57 := F57.keep f_o100 p103
      have F66 := F66.keep f_o100 p103
      have F76 := F76.keep f_o100 p103
      have f_o86 := p103 _ _ ne_o86_o100 f_o86
      have f_o100 : H102[o100]? = some (.cells ([.int .i64 v96.1.c0, .int .i64 v96.1.c1, .dl 1 (List.map (AV.int .i64) v96.1.c2) .none, .dl 1 (List.map (AV.int .i64) v96.1.c3) .none, .dl 1 (List.map (AV.int .u64) v96.1.c4) .none, .dl 1 (List.map (AV.int .u64) v96.1.c5) .none, .dl 1 (List.map (AV.int .u64) v96.1.c6) .none])) := f9_o100
      simp only [EVA, Nat.reduceAdd, Nat.reduceMul, Nat.reduceSub, Nat.reduceLeDiff, Nat.reduceLT, Nat.reduceBEq, Nat.reduceEqDiff, reduceIte, reduceCtorEq, Int.reduceLT, Int.reduceLE, Int.reduceToNat, Int.reducePow, Nat.reducePow, Int.reduceAdd, Int.reduceSub, Int.reduceNeg, Int.reduceEq, String.reduceEq, eq_true h35.1, eq_true h35.2.1, eq_true h35.2.2, ← List.map_take, ← List.map_drop, List.take_length, eq_true h45, eq_true h46.1, eq_true h46.2, q47, eq_true h48.1, eq_true h48.2, q49, eq_true h50.1, eq_true h50.2, q51, eq_true h90.1, eq_true h90.2, q91, eq_true h92.1, eq_true h92.2, q93, eq_true h94.1, eq_true h94.2, q95, f_o86, f_o100, (show IntKind.i64.wrap 1 = 1 from rfl)]
      refine AWP.draw noY_sound [[], [], [0, 1], [0, 1, 2], [0, 1, 2, 3], [0, 1, 2, 3, 4], [0, 1, 2, 3], [0, 1, 2, 3, 4, 5, 6], [0, 1, 2, 3, 4, 5, 6, 7], [0, 1, 2, 3, 4, 5, 6, 7, 8]] [⟨0, false, []⟩, ⟨1, false, []⟩, ⟨2, false, []⟩, ⟨3, false, []⟩, ⟨4, false, []⟩, ⟨6, false, []⟩, ⟨5, true, [6]⟩, ⟨7, true, []⟩, ⟨8, false, []⟩, ⟨9, false, []⟩] [0, 1, 2, 3, 4, 5, 6, 7, 8, 9] [0, 1, 2, 3, 4, 5, 6, 7, 8, 9] (by kernel_rfl) ?_
      simp only [EVA, Nat.reduceAdd, Nat.reduceMul, Nat.reduceSub, Nat.reduceLeDiff, Nat.reduceLT, Nat.reduceBEq, Nat.reduceEqDiff, reduceIte, reduceCtorEq, Int.reduceLT, Int.reduceLE, Int.reduceToNat, Int.reducePow, Nat.reducePow, Int.reduceAdd, Int.reduceSub, Int.reduceNeg, Int.reduceEq, String.reduceEq, eq_true h35.1, eq_true h35.2.1, eq_true h35.2.2, ← List.map_take, ← List.map_drop, List.take_length, eq_true h45, eq_true h46.1, eq_true h46.2, q47, eq_true h48.1, eq_true h48.2, q49, eq_true h50.1, eq_true h50.2, q51, eq_true h90.1, eq_true h90.2, q91, eq_true h92.1, eq_true h92.2, q93, eq_true h94.1, eq_true h94.2, q95, f_o86, f_o100, (show IntKind.i64.wrap 1 = 1 from rfl)]
      rcases ite_some hg with ⟨h104, hg⟩ | ⟨h104, hg⟩
      · refine Br.yes h104 ?_
        simp only [EVA, Nat.reduceAdd, Nat.reduceMul, Nat.reduceSub, Nat.reduceLeDiff, Nat.reduceLT, Nat.reduceBEq, Nat.reduceEqDiff, reduceIte, reduceCtorEq, Int.reduceLT, Int.reduceLE, Int.reduceToNat, Int.reducePow, Nat.reducePow, Int.reduceAdd, Int.reduceSub, Int.reduceNeg, Int.reduceEq, String.reduceEq, eq_true h35.1, eq_true h35.2.1, eq_true h35.2.2, ← List.map_take, ← List.map_drop, List.take_length, eq_true h45, eq_true h46.1, eq_true h46.2, q47, eq_true h48.1, eq_true h48.2, q49, eq_true h50.1, eq_true h50.2, q51, eq_true h90.1, eq_true h90.2, q91, eq_true h92.1, eq_true h92.2, q93, eq_true h94.1, eq_true h94.2, q95, eq_true h104, f_o86, f_o100, (show IntKind.i64.wrap 1 = 1 from rfl)]
        obtain ⟨v105, ch106, hg⟩ := bind_some hg
        refine ACall.wkA (args := [.agg [.int .i64 v82.1.c0, .int .i64 v82.1.c1, .dl 1 (List.map (AV.int .i64) v82.1.c2) .none, .dl 1 (List.map (AV.int .i64) v82.1.c3) .none, .dl 1 (List.map (AV.int .u64) v82.1.c4) .none, .dl 1 (List.map (AV.int .u64) v82.1.c5) .none, .dl 1 (List.map (AV.int .u64) v82.1.c6) .none]]) (c16 B w0 n (⟨v82.1.c0, v82.1.c1, v82.1.c2, v82.1.c3, v82.1.c4, v82.1.c5, v82.1.c6⟩ : S8) _ _ v105 ch106  ?_) (WkA.cons (wkA.agg (by repeat' first | exact Wk.nil | apply Wk.u | apply Wk.r)) WkA.nil)
        intro H107 x108
        have F39 := F39.mono x108
        have F40 := F40.mono x108
        have F41 := F41.mono x108
        have F57 := F57.mono x108
        have F66 := F66.mono x108
        have F76 := F76.mono x108
        have f_o86 := x108.2 _ _ f_o86
        have f_o100 := x108.2 _ _ f_o100
        have hE := hE.trans x108
        simp only [EVA, Nat.reduceAdd, Nat.reduceMul, Nat.reduceSub, Nat.reduceLeDiff, Nat.reduceLT, Nat.reduceBEq, Nat.reduceEqDiff, reduceIte, reduceCtorEq, Int.reduceLT, Int.reduceLE, Int.reduceToNat, Int.reducePow, Nat.reducePow, Int.reduceAdd, Int.reduceSub, Int.reduceNeg, Int.reduceEq, String.reduceEq, eq_true h35.1, eq_true h35.2.1, eq_true h35.2.2, ← List.map_take, ← List.map_drop, List.take_length, eq_true h45, eq_true h46.1, eq_true h46.2, q47, eq_true h48.1, eq_true h48.2, q49, eq_true h50.1, eq_true h50.2, q51, eq_true h90.1, eq_true h90.2, q91, eq_true h92.1, eq_true h92.2, q93, eq_true h94.1, eq_true h94.2, q95, eq_true h104, f_o86, f_o100, (show IntKind.i64.wrap 1 = 1 from rfl)]
        obtain ⟨v109, ch110, hg⟩ := bind_some hg
        refine ACall.wkA (args := [.agg [.int .i64 v105.c0, .int .i64 v105.c1, .dl 1 (List.map (AV.int .i64) v105.c2) .none, .dl 1 (List.map (AV.int .i64) v105.c3) .none, .dl 1 (List.map (AV.int .u64) v105.c4) .none, .dl 1 (List.map (AV.int .u64) v105.c5) .none, .dl 1 (List.map (AV.int .u64) v105.c6) .none], .agg [.int .i64 v96.1.c0, .int .i64 v96.1.c1, .dl 1 (List.map (AV.int .i64) v96.1.c2) .none, .dl 1 (List.map (AV.int .i64) v96.1.c3) .none, .dl 1 (List.map (AV.int .u64) v96.1.c4) .none, .dl 1 (List.map (AV.int .u64) v96.1.c5) .none, .dl 1 (List.map (AV.int .u64) v96.1.c6) .none]]) (c15 B w0 n (⟨v105.c0, v105.c1, v105.c2, v105.c3, v105.c4, v105.c5, v105.c6⟩ : S8) (⟨v96.1.c0, v96.1.c1, v96.1.c2, v96.1.c3, v96.1.c4, v96.1.c5, v96.1.c6⟩ : S8) _ _ v109 ch110  ?_) (WkA.cons (wkA.agg (by repeat' first | exact Wk.nil | apply Wk.u | apply Wk.r)) (WkA.cons (wkA.agg (by repeat' first | exact Wk.nil | apply Wk.u | apply Wk.r)) WkA.nil))
        intro H111 x112
        have F39 := F39.mono x112
        have F40 := F40.mono x112
        have F41 := F41.mono x112
        have F57 := F57.mono x112
        have F66 := F66.mono x112
        have F76 := F76.mono x112
        have f_o86 := x112.2 _ _ f_o86
        have f_o100 := x112.2 _ _ f_o100
        have hE := hE.trans x112
        rcases ite_some hg with ⟨h113, hg⟩ | ⟨h113, hg⟩
        · simp only [EVA, Nat.reduceAdd, Nat.reduceMul, Nat.reduceSub, Nat.reduceLeDiff, Nat.reduceLT, Nat.reduceBEq, Nat.reduceEqDiff, reduceIte, reduceCtorEq, Int.reduceLT, Int.reduceLE, Int.reduceToNat, Int.reducePow, Nat.reducePow, Int.reduceAdd, Int.reduceSub, Int.reduceNeg, Int.reduceEq, String.reduceEq, eq_true h35.1, eq_true h35.2.1, eq_true h35.2.2, ← List.map_take, ← List.map_drop, List.take_length, eq_true h45, eq_true h46.1, eq_true h46.2, q47, eq_true h48.1, eq_true h48.2, q49, eq_true h50.1, eq_true h50.2, q51, eq_true h90.1, eq_true h90.2, q91, eq_true h92.1, eq_true h92.2, q93, eq_true h94.1, eq_true h94.2, q95, eq_true h104, h113, f_o86, f_o100, (show IntKind.i64.wrap 1 = 1 from rfl)]
          exact ⟨⟨k37, IntKind.i64.wrap (x36 + 1)⟩, (by repeat' first | exact Wk.nil | apply Wk.u | apply Wk.r), ⟨hg, hE, F39, F40, F41, D42, D43, D44⟩, Nat.lt_succ_self _⟩
        · have h113 := Bool.eq_false_iff.2 h113
          simp only [EVA, Nat.reduceAdd, Nat.reduceMul, Nat.reduceSub, Nat.reduceLeDiff, Nat.reduceLT, Nat.reduceBEq, Nat.reduceEqDiff, reduceIte, reduceCtorEq, Int.reduceLT, Int.reduceLE, Int.reduceToNat, Int.reducePow, Nat.reducePow, Int.reduceAdd, Int.reduceSub, Int.reduceNeg, Int.reduceEq, String.reduceEq, rs3, eq_true h35.1, eq_true h35.2.1, eq_true h35.2.2, ← List.map_take, ← List.map_drop, List.take_length, eq_true h45, eq_true h46.1, eq_true h46.2, q47, eq_true h48.1, eq_true h48.2, q49, eq_true h50.1, eq_true h50.2, q51, eq_true h90.1, eq_true h90.2, q91, eq_true h92.1, eq_true h92.2, q93, eq_true h94.1, eq_true h94.2, q95, eq_true h104, h113, f_o86, f_o100, (show IntKind.i64.wrap 1 = 1 from rfl)]
          obtain rfl := Option.some.inj hg
          exact (hK  _ hE )
      · refine Br.no h104 ?_
        simp only [EVA, Nat.reduceAdd, Nat.reduceMul, Nat.reduceSub, Nat.reduceLeDiff, Nat.reduceLT, Nat.reduceBEq, Nat.reduceEqDiff, reduceIte, reduceCtorEq, Int.reduceLT, Int.reduceLE, Int.reduceToNat, Int.reducePow, Nat.reducePow, Int.reduceAdd, Int.reduceSub, Int.reduceNeg, Int.reduceEq, String.reduceEq, rs3, eq_true h35.1, eq_true h35.2.1, eq_true h35.2.2, ← List.map_take, ← List.map_drop, List.take_length, eq_true h45, eq_true h46.1, eq_true h46.2, q47, eq_true h48.1, eq_true h48.2, q49, eq_true h50.1, eq_true h50.2, q51, eq_true h90.1, eq_true h90.2, q91, eq_true h92.1, eq_true h92.2, q93, eq_true h94.1, eq_true h94.2, q95, eq_false h104, f_o86, f_o100, (show IntKind.i64.wrap 1 = 1 from rfl)]
        obtain rfl := Option.some.inj hg
        exact (hK  _ hE )
    · refine Br.no h45 ?_
      simp only [EVA, Nat.reduceAdd, Nat.reduceMul, Nat.reduceSub, Nat.reduceLeDiff, Nat.reduceLT, Nat.reduceBEq, Nat.reduceEqDiff, reduceIte, reduceCtorEq, Int.reduceLT, Int.reduceLE, Int.reduceToNat, Int.reducePow, Nat.reducePow, Int.reduceAdd, Int.reduceSub, Int.reduceNeg, Int.reduceEq, String.reduceEq, eq_true h35.1, eq_true h35.2.1, eq_true h35.2.2, ← List.map_take, ← List.map_drop, List.take_length, eq_false h45, (show IntKind.i64.wrap 1 = 1 from rfl)]
      obtain ⟨v114, ch115, hg⟩ := bind_some hg
      refine ACall.wkA (args := []) (c17 B w0 n  _ _ v114 ch115  ?_) WkA.nil
      intro H116 x117
      have F39 := F39.mono x117
      have F40 := F40.mono x117
      have F41 := F41.mono x117
      have hE := hE.trans x117
      simp only [EVA, Nat.reduceAdd, Nat.reduceMul, Nat.reduceSub, Nat.reduceLeDiff, Nat.reduceLT, Nat.reduceBEq, Nat.reduceEqDiff, reduceIte, reduceCtorEq, Int.reduceLT, Int.reduceLE, Int.reduceToNat, Int.reducePow, Nat.reducePow, Int.reduceAdd, Int.reduceSub, Int.reduceNeg, Int.reduceEq, String.reduceEq, rs3, eq_true h35.1, eq_true h35.2.1, eq_true h35.2.2, ← List.map_take, ← List.map_drop, List.take_length, eq_false h45, (show IntKind.i64.wrap 1 = 1 from rfl)]
      obtain rfl := Option.some.inj hg
      exact (hK  _ hE )
end Go.Av
end
