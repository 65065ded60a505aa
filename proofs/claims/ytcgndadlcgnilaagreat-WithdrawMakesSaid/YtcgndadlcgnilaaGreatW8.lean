/- the walks, part 8 -/
import Derived.Test.YtcgndadlcgnilaaGreatA28
import Derived.Test.YtcgndadlcgnilaaGreatW4
import Derived.Test.YtcgndadlcgnilaaGreatW6
import Derived.Test.YtcgndadlcgnilaaGreatW7
set_option autoImplicit false
set_option linter.unusedSimpArgs false
set_option linter.unusedVariables false
section
set_option maxHeartbeats 1000000
set_option maxRecDepth 10000
namespace Go.Av
open Go.Proofs
/-- skymosaic/withdraw.Make -/
def l11_0 (n : Nat) (a0 : Int) (a1 : Int) (a2 : List S6) (a3 : List S6) (a4 : List Int) (a5 : List (List S1)) (v11 : (List Int)) : Nat → Int → List Int → List Int → List Int → List Int → Option (S8 × Int)
  | 0, _, _, _, _, _ => none
  | k28 + 1, x19, x20, x22, x24, x26 => if x19 < (a2.length : Int) then (if (0 : Int) ≤ x19 ∧ x19 < (a2.length : Int) then (if (0 : Int) ≤ x19 ∧ x19 < (a3.length : Int) then (if (rd a2 x19).c7 = true then (if (rd a3 x19).c7 = true then (some ((⟨0, 0, ([] : List Int), ([] : List Int), ([] : List Int), ([] : List Int), ([] : List Int)⟩ : S8), 1)) else (if ((rd a2 x19).c2) = ((rd a3 x19).c2) then (if ((rd a2 x19).c3) = ((rd a3 x19).c3) then (if ((rd a2 x19).c5) = ((rd a3 x19).c5) then (if ((rd a3 x19).c4) = a1 then (if x20.length + 1 ≤ 17592186044416 then (if x22.length + 1 ≤ 17592186044416 then (if (0 : Int) ≤ x19 ∧ x19 < (a5.length : Int) then (if x24.length + 1 ≤ 17592186044416 then ((g23 n (rd a5 x19)).bind fun v96 => if x26.length + 1 ≤ 17592186044416 then ((l11_0 n a0 a1 a2 a3 a4 a5 v11 k28) (IntKind.i64.wrap (x19 + 1)) (x20 ++ ([(rd a2 x19).c0] : List Int)) (x22 ++ ([(rd a3 x19).c0] : List Int)) (x24 ++ ([(rd a3 x19).c6] : List Int)) (x26 ++ ([v96] : List Int))) else none) else none) else none) else none) else none) else (some ((⟨0, 0, ([] : List Int), ([] : List Int), ([] : List Int), ([] : List Int), ([] : List Int)⟩ : S8), 1))) else (some ((⟨0, 0, ([] : List Int), ([] : List Int), ([] : List Int), ([] : List Int), ([] : List Int)⟩ : S8), 1))) else (some ((⟨0, 0, ([] : List Int), ([] : List Int), ([] : List Int), ([] : List Int), ([] : List Int)⟩ : S8), 1))) else (some ((⟨0, 0, ([] : List Int), ([] : List Int), ([] : List Int), ([] : List Int), ([] : List Int)⟩ : S8), 1)))) else (some ((⟨0, 0, ([] : List Int), ([] : List Int), ([] : List Int), ([] : List Int), ([] : List Int)⟩ : S8), 1))) else none) else none) else ((g34 n x20).bind fun v123 => if v123 = true then ((g34 n x22).bind fun v128 => if v128 = true then ((g35 n a5 a4).bind fun v133 => if v133 = true then (some ((⟨0, 0, ([] : List Int), ([] : List Int), ([] : List Int), ([] : List Int), ([] : List Int)⟩ : S8), 17)) else (some ((⟨a0, a1, x20, x22, v11, x24, x26⟩ : S8), 0))) else (some ((⟨0, 0, ([] : List Int), ([] : List Int), ([] : List Int), ([] : List Int), ([] : List Int)⟩ : S8), 1))) else (some ((⟨0, 0, ([] : List Int), ([] : List Int), ([] : List Int), ([] : List Int), ([] : List Int)⟩ : S8), 1)))
theorem rs11 : Tryz.f11.results.toList = [.cell 12 33, .tmp 13] := rfl
def g11 (n : Nat) (a0 : Int) (a1 : Int) (a2 : List S6) (a3 : List S6) (a4 : List Int) (a5 : List (List S1)) : Option (S8 × Int) := (g32 n a0 a1).bind fun v3 => if v3 = true then (if (a3.length : Int) = (a2.length : Int) then (if (a5.length : Int) = (a2.length : Int) then (if 1024 < (a2.length : Int) then (some ((⟨0, 0, ([] : List Int), ([] : List Int), ([] : List Int), ([] : List Int), ([] : List Int)⟩ : S8), 1)) else ((g33 n a4).bind fun v11 => l11_0 n a0 a1 a2 a3 a4 a5 v11 n 0 ([] : List Int) ([] : List Int) ([] : List Int) ([] : List Int))) else (some ((⟨0, 0, ([] : List Int), ([] : List Int), ([] : List Int), ([] : List Int), ([] : List Int)⟩ : S8), 1))) else (some ((⟨0, 0, ([] : List Int), ([] : List Int), ([] : List Int), ([] : List Int), ([] : List Int)⟩ : S8), 1))) else (some ((⟨0, 0, ([] : List Int), ([] : List Int), ([] : List Int), ([] : List Int), ([] : List Int)⟩ : S8), 1))
theorem c11 (B : Nat) (w0 : World) (n : Nat) (a0 : Int) (a1 : Int) (a2 : List S6) (a3 : List S6) (a4 : List Int) (a5 : List (List S1)) (ta2 : Tail) (ta3 : Tail) (ta4 : Tail) (ta5 : Tail) (H : AHeap) (K : AV → AHeap → Prop) (r : (S8 × Int)) (hg : g11 n a0 a1 a2 a3 a4 a5 = some r)  (hK : ∀ (H' : AHeap), Ext H H' → K (.tup [.agg [.int .i64 r.1.c0, .int .i64 r.1.c1, .dl 1 (List.map (AV.int .i64) r.1.c2) .none, .dl 1 (List.map (AV.int .i64) r.1.c3) .none, .dl 1 (List.map (AV.int .u64) r.1.c4) .none, .dl 1 (List.map (AV.int .u64) r.1.c5) .none, .dl 1 (List.map (AV.int .u64) r.1.c6) .none], .int .i64 r.2]) H') : ACall Tryz.prog B w0 11 [.int .i64 a0, .int .i64 a1, .dl 8 (List.map encS6 a2) ta2, .dl 8 (List.map encS6 a3) ta3, .dl 1 (List.map (AV.int .u64) a4) ta4, .dl 1 (List.map encL3 a5) ta5] H K := by
  refine ACall.wkR ?_
  unfold g11 at hg
  refine ACall.enter Tryz.func11 (by kernel_rfl) rfl (eawp_sound noY_sound _ _ _ _ ?_)
  have hE : Ext H H := Ext.refl H
  simp only [EVA, Nat.reduceAdd, Nat.reduceMul, Nat.reduceSub, Nat.reduceLeDiff, Nat.reduceLT, Nat.reduceBEq, Nat.reduceEqDiff, reduceIte, reduceCtorEq, Int.reduceLT, Int.reduceLE, Int.reduceToNat, Int.reducePow, Nat.reducePow, Int.reduceAdd, Int.reduceSub, Int.reduceNeg, Int.reduceEq, String.reduceEq, Tryz.ntmps11, rs11, (show IntKind.i64.wrap 1 = 1 from rfl)]
  refine eop_alloc_go (H0 := H) ty33 rfl rfl hE ?_
  intro o1 H2 hE xo1 g_o1 f_o1 n_o1
  have f_o1 : H2[o1]? = some (.cells ([.int .i64 0, .int .i64 0, .dl 0 [] .full, .dl 0 [] .full, .dl 0 [] .full, .dl 0 [] .full, .dl 0 [] .full])) := f_o1
  simp only [EVA, Nat.reduceAdd, Nat.reduceMul, Nat.reduceSub, Nat.reduceLeDiff, Nat.reduceLT, Nat.reduceBEq, Nat.reduceEqDiff, reduceIte, reduceCtorEq, Int.reduceLT, Int.reduceLE, Int.reduceToNat, Int.reducePow, Nat.reducePow, Int.reduceAdd, Int.reduceSub, Int.reduceNeg, Int.reduceEq, String.reduceEq, f_o1, (show IntKind.i64.wrap 1 = 1 from rfl)]
  obtain ⟨v3, ch4, hg⟩ := bind_some hg
  refine ACall.wkA (args := [.int .i64 a0, .int .i64 a1]) (c32 B w0 n a0 a1 _ _ v3 ch4  ?_) (WkA.cons (wkA.refl _) (WkA.cons (wkA.refl _) WkA.nil))
  rcases ite_some hg with ⟨h5, hg⟩ | ⟨h5, hg⟩
  · simp only [EVA, Nat.reduceAdd, Nat.reduceMul, Nat.reduceSub, Nat.reduceLeDiff, Nat.reduceLT, Nat.reduceBEq, Nat.reduceEqDiff, reduceIte, reduceCtorEq, Int.reduceLT, Int.reduceLE, Int.reduceToNat, Int.reducePow, Nat.reducePow, Int.reduceAdd, Int.reduceSub, Int.reduceNeg, Int.reduceEq, String.reduceEq, h5, f_o1, (show IntKind.i64.wrap 1 = 1 from rfl)]
    rcases ite_some hg with ⟨h6, hg⟩ | ⟨h6, hg⟩
    · refine Br.yes h6 ?_
      simp only [EVA, Nat.reduceAdd, Nat.reduceMul, Nat.reduceSub, Nat.reduceLeDiff, Nat.reduceLT, Nat.reduceBEq, Nat.reduceEqDiff, reduceIte, reduceCtorEq, Int.reduceLT, Int.reduceLE, Int.reduceToNat, Int.reducePow, Nat.reducePow, Int.reduceAdd, Int.reduceSub, Int.reduceNeg, Int.reduceEq, String.reduceEq, h5, eq_true h6, f_o1, (show IntKind.i64.wrap 1 = 1 from rfl)]
      rcases ite_some hg with ⟨h7, hg⟩ | ⟨h7, hg⟩
      · refine Br.yes h7 ?_
        simp only [EVA, Nat.reduceAdd, Nat.reduceMul, Nat.reduceSub, Nat.reduceLeDiff, Nat.reduceLT, Nat.reduceBEq, Nat.reduceEqDiff, reduceIte, reduceCtorEq, Int.reduceLT, Int.reduceLE, Int.reduceToNat, Int.reducePow, Nat.reducePow, Int.reduceAdd, Int.reduceSub, Int.reduceNeg, Int.reduceEq, String.reduceEq, h5, eq_true h6, eq_true h7, f_o1, (show IntKind.i64.wrap 1 = 1 from rfl)]
        rcases ite_some hg with ⟨h8, hg⟩ | ⟨h8, hg⟩
        · refine Br.yes h8 ?_
          simp only [EVA, Nat.reduceAdd, Nat.reduceMul, Nat.reduceSub, Nat.reduceLeDiff, Nat.reduceLT, Nat.reduceBEq, Nat.reduceEqDiff, reduceIte, reduceCtorEq, Int.reduceLT, Int.reduceLE, Int.reduceToNat, Int.reducePow, Nat.reducePow, Int.reduceAdd, Int.reduceSub, Int.reduceNeg, Int.reduceEq, String.reduceEq, h5, eq_true h6, eq_true h7, eq_true h8, f_o1, (show IntKind.i64.wrap 1 = 1 from rfl)]
          refine eop_store_go (H0 := H) (id := o1) (off := 0) (v := .agg [.int .i64 0, .int .i64 0, .dl 0 [] .full, .dl 0 [] .full, .dl 0 [] .full, .dl 0 [] .full, .dl 0 [] .full]) rfl rfl f_o1 ty33 rfl rfl (Nat.le_of_ble_eq_true rfl) hE g_o1 ?_
          intro H9 hE f9_o1 p10 l9
          have f_o1 : H9[o1]? = some (.cells ([.int .i64 0, .int .i64 0, .dl 0 [] .full, .dl 0 [] .full, .dl 0 [] .full, .dl 0 [] .full, .dl 0 [] .full])) := f9_o1
          simp only [EVA, Nat.reduceAdd, Nat.reduceMul, Nat.reduceSub, Nat.reduceLeDiff, Nat.reduceLT, Nat.reduceBEq, Nat.reduceEqDiff, reduceIte, reduceCtorEq, Int.reduceLT, Int.reduceLE, Int.reduceToNat, Int.reducePow, Nat.reducePow, Int.reduceAdd, Int.reduceSub, Int.reduceNeg, Int.reduceEq, String.reduceEq, rs11, h5, eq_true h6, eq_true h7, eq_true h8, f_o1, (show IntKind.i64.wrap 1 = 1 from rfl)]
          obtain rfl := Option.some.inj hg
          exact ⟨_, (wkR.tup (WkA.cons (wkA.agg (by repeat' first | exact Wk.nil | apply Wk.u | apply Wk.r | apply Wk.cons (wkV.nil _ _ _))) (WkA.cons (wkA.refl _) WkA.nil))), (hK  _ hE )⟩
        · refine Br.no h8 ?_
          simp only [EVA, Nat.reduceAdd, Nat.reduceMul, Nat.reduceSub, Nat.reduceLeDiff, Nat.reduceLT, Nat.reduceBEq, Nat.reduceEqDiff, reduceIte, reduceCtorEq, Int.reduceLT, Int.reduceLE, Int.reduceToNat, Int.reducePow, Nat.reducePow, Int.reduceAdd, Int.reduceSub, Int.reduceNeg, Int.reduceEq, String.reduceEq, h5, eq_true h6, eq_true h7, eq_false h8, f_o1, (show IntKind.i64.wrap 1 = 1 from rfl)]
          obtain ⟨v11, ch12, hg⟩ := bind_some hg
          refine ACall.wkA (args := [.dl 1 (List.map (AV.int .u64) a4) ta4]) (c33 B w0 n a4 ta4 _ _ v11 ch12  ?_) (WkA.cons (wkA.refl _) WkA.nil)
          intro H13 x14
          have f_o1 := x14.2 _ _ f_o1
          have hE := hE.trans x14
          simp only [EVA, Nat.reduceAdd, Nat.reduceMul, Nat.reduceSub, Nat.reduceLeDiff, Nat.reduceLT, Nat.reduceBEq, Nat.reduceEqDiff, reduceIte, reduceCtorEq, Int.reduceLT, Int.reduceLE, Int.reduceToNat, Int.reducePow, Nat.reducePow, Int.reduceAdd, Int.reduceSub, Int.reduceNeg, Int.reduceEq, String.reduceEq, h5, eq_true h6, eq_true h7, eq_false h8, f_o1, (show IntKind.i64.wrap 1 = 1 from rfl)]
          refine eop_alloc_go (H0 := H) ty33 rfl rfl hE ?_
          intro o15 H16 hE xo15 g_o15 f_o15 n_o15
          have ne_o1_o15 := n_o15 _ _ f_o1
          have f_o1 := xo15.2 _ _ f_o1
          have f_o15 : H16[o15]? = some (.cells ([.int .i64 0, .int .i64 0, .dl 0 [] .full, .dl 0 [] .full, .dl 0 [] .full, .dl 0 [] .full, .dl 0 [] .full])) := f_o15
          simp only [EVA, Nat.reduceAdd, Nat.reduceMul, Nat.reduceSub, Nat.reduceLeDiff, Nat.reduceLT, Nat.reduceBEq, Nat.reduceEqDiff, reduceIte, reduceCtorEq, Int.reduceLT, Int.reduceLE, Int.reduceToNat, Int.reducePow, Nat.reducePow, Int.reduceAdd, Int.reduceSub, Int.reduceNeg, Int.reduceEq, String.reduceEq, h5, eq_true h6, eq_true h7, eq_false h8, f_o1, f_o15, (show IntKind.i64.wrap 1 = 1 from rfl)]
          refine eop_store_go (H0 := H) (id := o15) (off := 0) (v := .agg [.int .i64 a0, .int .i64 a1, .dl 0 [] .full, .dl 0 [] .full, .dl 1 (List.map (AV.int .u64) v11) .none, .dl 0 [] .full, .dl 0 [] .full]) rfl rfl f_o15 ty33 rfl rfl (Nat.le_of_ble_eq_true rfl) hE g_o15 ?_
          intro H17 hE f9_o15 p18 l9
          have f_o1 := p18 _ _ ne_o1_o15 f_o1
          have f_o15 : H17[o15]? = some (.cells ([.int .i64 a0, .int .i64 a1, .dl 0 [] .full, .dl 0 [] .full, .dl 1 (List.map (AV.int .u64) v11) .none, .dl 0 [] .full, .dl 0 [] .full])) := f9_o15
          simp only [EVA, Nat.reduceAdd, Nat.reduceMul, Nat.reduceSub, Nat.reduceLeDiff, Nat.reduceLT, Nat.reduceBEq, Nat.reduceEqDiff, reduceIte, reduceCtorEq, Int.reduceLT, Int.reduceLE, Int.reduceToNat, Int.reducePow, Nat.reducePow, Int.reduceAdd, Int.reduceSub, Int.reduceNeg, Int.reduceEq, String.reduceEq, h5, eq_true h6, eq_true h7, eq_false h8, f_o1, f_o15, (show IntKind.i64.wrap 1 = 1 from rfl)]
          refine AWP.loop (σ := Nat × Int × List Int × List Int × List Int × List Int × Tail × Tail × Tail × Tail) (fun s => [.undef, .int .i64 a1, .undef, .dl 8 (List.map encS6 a3) ta3, .dl 1 (List.map (AV.int .u64) a4) ta4, .dl 1 (List.map encL3 a5) ta5, .undef, .undef, .undef, .undef, .undef, .undef, .ptr o1 0, .undef, .undef, .ptr o15 0, .undef, .undef, .undef, .undef, .undef, .undef, .undef, .undef, .undef, .undef, .undef, .undef, .undef, .undef, .undef, .undef, .undef, .undef, .undef, .undef, .undef, .undef, .undef, .undef, .undef, .undef, .undef, .undef, .undef, .undef, .undef, .dl 8 (List.map encS6 a2) ta2, .int .i64 (a2.length : Int), .int .i64 s.2.1, .undef, .undef, .undef, .undef, .undef, .undef, .undef, .undef, .undef, .undef, .undef, .undef, .undef, .undef, .undef, .undef, .undef, .undef, .undef, .undef, .undef, .undef, .undef, .undef, .undef, .undef, .undef, .undef, .undef, .undef, .undef, .undef, .undef, .undef, .undef, .undef, .undef, .undef, .undef, .undef, .undef, .undef, .undef, .undef, .undef, .undef, .undef, .undef, .undef, .undef, .undef, .undef, .undef, .undef, .undef, .undef, .undef, .undef, .undef, .undef, .undef, .undef, .undef, .undef, .undef, .undef, .undef, .undef, .undef, .undef, .undef, .undef, .undef, .undef, .undef, .undef, .undef, .undef, .undef, .undef, .undef, .undef, .undef, .undef, .undef, .undef, .undef, .undef, .undef, .undef, .undef, .undef, .undef]) (fun s H' => l11_0 n a0 a1 a2 a3 a4 a5 v11 s.1 s.2.1 s.2.2.1 s.2.2.2.1 s.2.2.2.2.1 s.2.2.2.2.2.1 = some r ∧ Ext H H' ∧ ObjAt H' o1 ([.int .i64 0, .int .i64 0, .dl 0 [] .full, .dl 0 [] .full, .dl 0 [] .full, .dl 0 [] .full, .dl 0 [] .full]) ∧ ObjW H' o15 ([.int .i64 a0, .int .i64 a1, .dl 1 (List.map (AV.int .i64) s.2.2.1) s.2.2.2.2.2.2.1, .dl 1 (List.map (AV.int .i64) s.2.2.2.1) s.2.2.2.2.2.2.2.1, .dl 1 (List.map (AV.int .u64) v11) .none, .dl 1 (List.map (AV.int .u64) s.2.2.2.2.1) s.2.2.2.2.2.2.2.2.1, .dl 1 (List.map (AV.int .u64) s.2.2.2.2.2.1) s.2.2.2.2.2.2.2.2.2]) ∧ Free H H' s.2.2.2.2.2.2.1 ∧ Free H H' s.2.2.2.2.2.2.2.1 ∧ Free H H' s.2.2.2.2.2.2.2.2.1 ∧ Free H H' s.2.2.2.2.2.2.2.2.2 ∧ tlNe s.2.2.2.2.2.2.1 s.2.2.2.2.2.2.2.1 ∧ tlNe s.2.2.2.2.2.2.1 s.2.2.2.2.2.2.2.2.1 ∧ tlNe s.2.2.2.2.2.2.1 s.2.2.2.2.2.2.2.2.2 ∧ tlNe s.2.2.2.2.2.2.2.1 s.2.2.2.2.2.2.2.2.1 ∧ tlNe s.2.2.2.2.2.2.2.1 s.2.2.2.2.2.2.2.2.2 ∧ tlNe s.2.2.2.2.2.2.2.2.1 s.2.2.2.2.2.2.2.2.2) (fun s => s.1) ⟨⟨n, 0, ([] : List Int), ([] : List Int), ([] : List Int), ([] : List Int), .full, .full, .full, .full⟩, (by repeat' first | exact Wk.nil | apply Wk.u | apply Wk.r), ⟨hg, hE, f_o1, ⟨_, f_o15, (by repeat' first | exact Wk.nil | apply Wk.u | apply Wk.r | apply Wk.cons (wkV.nilf _ _))⟩, (Free.full _ _), (Free.full _ _), (Free.full _ _), (Free.full _ _), (tlNe.full _), (tlNe.full _), (tlNe.full _), (tlNe.full _), (tlNe.full _), (tlNe.full _)⟩⟩ ?_
          rintro ⟨k28, x19, x20, x22, x24, x26, tl21, tl23, tl25, tl27⟩ H29 ⟨hg, hE, f9_o1, f_o15, F30, F31, F32, F33, D34, D35, D36, D37, D38, D39⟩ _
          have f_o1 : H29[o1]? = some (.cells ([.int .i64 0, .int .i64 0, .dl 0 [] .full, .dl 0 [] .full, .dl 0 [] .full, .dl 0 [] .full, .dl 0 [] .full])) := f9_o1
          clear f9_o1
          try dsimp only at hg f_o15 F30 F31 F32 F33 D34 D35 D36 D37 D38 D39
          cases k28 with
          | zero => simp only [l11_0, reduceCtorEq] at hg
          | succ k28 =>
            rw [l11_0] at hg
            obtain ⟨cs_o15, f_o15, w_o15⟩ := f_o15
            refine AWP.wkGo (H0 := H) f_o15 w_o15 hE g_o15 ?_
            intro H40 hE f9_o15 p41 l9
            have F30 := F30.keep f_o15 p41
            have F31 := F31.keep f_o15 p41
            have F32 := F32.keep f_o15 p41
            have F33 := F33.keep f_o15 p41
            have f_o1 := p41 _ _ ne_o1_o15 f_o1
            have f_o15 : H40[o15]? = some (.cells ([.int .i64 a0, .int .i64 a1, .dl 1 (List.map (AV.int .i64) x20) tl21, .dl 1 (List.map (AV.int .i64) x22) tl23, .dl 1 (List.map (AV.int .u64) v11) .none, .dl 1 (List.map (AV.int .u64) x24) tl25, .dl 1 (List.map (AV.int .u64) x26) tl27])) := f9_o15
            refine eawp_sound noY_sound _ _ _ _ ?_
            simp only [EVA, Nat.reduceAdd, Nat.reduceMul, Nat.reduceSub, Nat.reduceLeDiff, Nat.reduceLT, Nat.reduceBEq, Nat.reduceEqDiff, reduceIte, reduceCtorEq, Int.reduceLT, Int.reduceLE, Int.reduceToNat, Int.reducePow, Nat.reducePow, Int.reduceAdd, Int.reduceSub, Int.reduceNeg, Int.reduceEq, String.reduceEq, h5, eq_true h6, eq_true h7, eq_false h8, f_o1, f_o15, (show IntKind.i64.wrap 1 = 1 from rfl)]
            rcases ite_some hg with ⟨h42, hg⟩ | ⟨h42, hg⟩
            · refine Br.yes h42 ?_
              obtain ⟨h43, hg⟩ := guard_some hg
              have q44 : List.getD (List.map encS6 a2) (Int.toNat x19) AV.undef = encS6 (rd a2 x19) := rd_map (l := a2) (i := x19) encS6 h43
              simp only [EVA, Nat.reduceAdd, Nat.reduceMul, Nat.reduceSub, Nat.reduceLeDiff, Nat.reduceLT, Nat.reduceBEq, Nat.reduceEqDiff, reduceIte, reduceCtorEq, Int.reduceLT, Int.reduceLE, Int.reduceToNat, Int.reducePow, Nat.reducePow, Int.reduceAdd, Int.reduceSub, Int.reduceNeg, Int.reduceEq, String.reduceEq, h5, eq_true h6, eq_true h7, eq_false h8, eq_true h42, eq_true h43.1, eq_true h43.2, q44, f_o1, f_o15, (show IntKind.i64.wrap 1 = 1 from rfl)]
              refine eop_alloc_go (H0 := H) ty85 rfl rfl hE ?_
              intro o45 H46 hE xo45 g_o45 f_o45 n_o45
              have ne_o1_o45 := n_o45 _ _ f_o1
              have f_o1 := xo45.2 _ _ f_o1
              have ne_o15_o45 := n_o45 _ _ f_o15
              have f_o15 := xo45.2 _ _ f_o15
              have F30 := F30.mono xo45
              have F31 := F31.mono xo45
              have F32 := F32.mono xo45
              have F33 := F33.mono xo45
              have f_o45 : H46[o45]? = some (.cells ([.int .i64 0, .int .i64 0, .str ([]), .int .i64 0, .int .i64 0, .int .i64 0, .int .u64 0, .bool false])) := f_o45
              simp only [EVA, Nat.reduceAdd, Nat.reduceMul, Nat.reduceSub, Nat.reduceLeDiff, Nat.reduceLT, Nat.reduceBEq, Nat.reduceEqDiff, reduceIte, reduceCtorEq, Int.reduceLT, Int.reduceLE, Int.reduceToNat, Int.reducePow, Nat.reducePow, Int.reduceAdd, Int.reduceSub, Int.reduceNeg, Int.reduceEq, String.reduceEq, h5, eq_true h6, eq_true h7, eq_false h8, eq_true h42, eq_true h43.1, eq_true h43.2, q44, f_o1, f_o15, f_o45, (show IntKind.i64.wrap 1 = 1 from rfl)]
              refine eop_store_go (H0 := H) (id := o45) (off := 0) (v := .agg [.int .i64 ((rd a2 x19).c0), .int .i64 ((rd a2 x19).c1), .str ((rd a2 x19).c2), .int .i64 ((rd a2 x19).c3), .int .i64 ((rd a2 x19).c4), .int .i64 ((rd a2 x19).c5), .int .u64 ((rd a2 x19).c6), .bool (rd a2 x19).c7]) rfl rfl f_o45 ty85 rfl rfl (Nat.le_of_ble_eq_true rfl) hE g_o45 ?_
              intro H47 hE f9_o45 p48 l9
              have F30 := F30.keep f_o45 p48
              have F31 := F31.keep f_o45 p48
              have F32 := F32.keep f_o45 p48
              have F33 := F33.keep f_o45 p48
              have f_o1 := p48 _ _ ne_o1_o45 f_o1
              have f_o15 := p48 _ _ ne_o15_o45 f_o15
              have f_o45 : H47[o45]? = some (.cells ([.int .i64 ((rd a2 x19).c0), .int .i64 ((rd a2 x19).c1), .str ((rd a2 x19).c2), .int .i64 ((rd a2 x19).c3), .int .i64 ((rd a2 x19).c4), .int .i64 ((rd a2 x19).c5), .int .u64 ((rd a2 x19).c6), .bool (rd a2 x19).c7])) := f9_o45
              obtain ⟨h49, hg⟩ := guard_some hg
              have q50 : List.getD (List.map encS6 a3) (Int.toNat x19) AV.undef = encS6 (rd a3 x19) := rd_map (l := a3) (i := x19) encS6 h49
              simp only [EVA, Nat.reduceAdd, Nat.reduceMul, Nat.reduceSub, Nat.reduceLeDiff, Nat.reduceLT, Nat.reduceBEq, Nat.reduceEqDiff, reduceIte, reduceCtorEq, Int.reduceLT, Int.reduceLE, Int.reduceToNat, Int.reducePow, Nat.reducePow, Int.reduceAdd, Int.reduceSub, Int.reduceNeg, Int.reduceEq, String.reduceEq, h5, eq_true h6, eq_true h7, eq_false h8, eq_true h42, eq_true h43.1, eq_true h43.2, q44, eq_true h49.1, eq_true h49.2, q50, f_o1, f_o15, f_o45, (show IntKind.i64.wrap 1 = 1 from rfl)]
              refine eop_alloc_go (H0 := H) ty85 rfl rfl hE ?_
              intro o51 H52 hE xo51 g_o51 f_o51 n_o51
              have ne_o1_o51 := n_o51 _ _ f_o1
              have f_o1 := xo51.2 _ _ f_o1
              have ne_o15_o51 := n_o51 _ _ f_o15
              have f_o15 := xo51.2 _ _ f_o15
              have ne_o45_o51 := n_o51 _ _ f_o45
              have f_o45 := xo51.2 _ _ f_o45
              have F30 := F30.mono xo51
              have F31 := F31.mono xo51
              have F32 := F32.mono xo51
              have F33 := F33.mono xo51
              have f_o51 : H52[o51]? = some (.cells ([.int .i64 0, .int .i64 0, .str ([]), .int .i64 0, .int .i64 0, .int .i64 0, .int .u64 0, .bool false])) := f_o51
              simp only [EVA, Nat.reduceAdd, Nat.reduceMul, Nat.reduceSub, Nat.reduceLeDiff, Nat.reduceLT, Nat.reduceBEq, Nat.reduceEqDiff, reduceIte, reduceCtorEq, Int.reduceLT, Int.reduceLE, Int.reduceToNat, Int.reducePow, Nat.reducePow, Int.reduceAdd, Int.reduceSub, Int.reduceNeg, Int.reduceEq, String.reduceEq, h5, eq_true h6, eq_true h7, eq_false h8, eq_true h42, eq_true h43.1, eq_true h43.2, q44, eq_true h49.1, eq_true h49.2, q50, f_o1, f_o15, f_o45, f_o51, (show IntKind.i64.wrap 1 = 1 from rfl)]
              refine eop_store_go (H0 := H) (id := o51) (off := 0) (v := .agg [.int .i64 ((rd a3 x19).c0), .int .i64 ((rd a3 x19).c1), .str ((rd a3 x19).c2), .int .i64 ((rd a3 x19).c3), .int .i64 ((rd a3 x19).c4), .int .i64 ((rd a3 x19).c5), .int .u64 ((rd a3 x19).c6), .bool (rd a3 x19).c7]) rfl rfl f_o51 ty85 rfl rfl (Nat.le_of_ble_eq_true rfl) hE g_o51 ?_
              intro H53 hE f9_o51 p54 l9
              have F30 := F30.keep f_o51 p54
              have F31 := F31.keep f_o51 p54
              have F32 := F32.keep f_o51 p54
              have F33 := F33.keep f_o51 p54
              have f_o1 := p54 _ _ ne_o1_o51 f_o1
              have f_o15 := p54 _ _ ne_o15_o51 f_o15
              have f_o45 := p54 _ _ ne_o45_o51 f_o45
              have f_o51 : H53[o51]? = some (.cells ([.int .i64 ((rd a3 x19).c0), .int .i64 ((rd a3 x19).c1), .str ((rd a3 x19).c2), .int .i64 ((rd a3 x19).c3), .int .i64 ((rd a3 x19).c4), .int .i64 ((rd a3 x19).c5), .int .u64 ((rd a3 x19).c6), .bool (rd a3 x19).c7])) := f9_o51
              rcases ite_some hg with ⟨h55, hg⟩ | ⟨h55, hg⟩
              · rcases ite_some hg with ⟨h56, hg⟩ | ⟨h56, hg⟩
                · simp only [EVA, Nat.reduceAdd, Nat.reduceMul, Nat.reduceSub, Nat.reduceLeDiff, Nat.reduceLT, Nat.reduceBEq, Nat.reduceEqDiff, reduceIte, reduceCtorEq, Int.reduceLT, Int.reduceLE, Int.reduceToNat, Int.reducePow, Nat.reducePow, Int.reduceAdd, Int.reduceSub, Int.reduceNeg, Int.reduceEq, String.reduceEq, h5, eq_true h6, eq_true h7, eq_false h8, eq_true h42, eq_true h43.1, eq_true h43.2, q44, eq_true h49.1, eq_true h49.2, q50, h55, h56, f_o1, f_o15, f_o45, f_o51, (show IntKind.i64.wrap 1 = 1 from rfl)]
                  refine eop_store_go (H0 := H) (id := o1) (off := 0) (v := .agg [.int .i64 0, .int .i64 0, .dl 0 [] .full, .dl 0 [] .full, .dl 0 [] .full, .dl 0 [] .full, .dl 0 [] .full]) rfl rfl f_o1 ty33 rfl rfl (Nat.le_of_ble_eq_true rfl) hE g_o1 ?_
                  intro H57 hE f9_o1 p58 l9
                  have F30 := F30.keep f_o1 p58
                  have F31 := F31.keep f_o1 p58
                  have F32 := F32.keep f_o1 p58
                  have F33 := F33.keep f_o1 p58
                  have f_o15 := p58 _ _ (Ne.symm ne_o1_o15) f_o15
                  have f_o45 := p58 _ _ (Ne.symm ne_o1_o45) f_o45
                  have f_o51 := p58 _ _ (Ne.symm ne_o1_o51) f_o51
                  have f_o1 : H57[o1]? = some (.cells ([.int .i64 0, .int .i64 0, .dl 0 [] .full, .dl 0 [] .full, .dl 0 [] .full, .dl 0 [] .full, .dl 0 [] .full])) := f9_o1
                  simp only [EVA, Nat.reduceAdd, Nat.reduceMul, Nat.reduceSub, Nat.reduceLeDiff, Nat.reduceLT, Nat.reduceBEq, Nat.reduceEqDiff, reduceIte, reduceCtorEq, Int.reduceLT, Int.reduceLE, Int.reduceToNat, Int.reducePow, Nat.reducePow, Int.reduceAdd, Int.reduceSub, Int.reduceNeg, Int.reduceEq, String.reduceEq, rs11, h5, eq_true h6, eq_true h7, eq_false h8, eq_true h42, eq_true h43.1, eq_true h43.2, q44, eq_true h49.1, eq_true h49.2, q50, h55, h56, f_o1, f_o15, f_o45, f_o51, (show IntKind.i64.wrap 1 = 1 from rfl)]
                  obtain rfl := Option.some.inj hg
                  exact ⟨_, (wkR.tup (WkA.cons (wkA.agg (by repeat' first | exact Wk.nil | apply Wk.u | apply Wk.r | apply Wk.cons (wkV.nil _ _ _))) (WkA.cons (wkA.refl _) WkA.nil))), (hK  _ hE )⟩
                · have h56 := Bool.eq_false_iff.2 h56
                  simp only [EVA, Nat.reduceAdd, Nat.reduceMul, Nat.reduceSub, Nat.reduceLeDiff, Nat.reduceLT, Nat.reduceBEq, Nat.reduceEqDiff, reduceIte, reduceCtorEq, Int.reduceLT, Int.reduceLE, Int.reduceToNat, Int.reducePow, Nat.reducePow, Int.reduceAdd, Int.reduceSub, Int.reduceNeg, Int.reduceEq, String.reduceEq, h5, eq_true h6, eq_true h7, eq_false h8, eq_true h42, eq_true h43.1, eq_true h43.2, q44, eq_true h49.1, eq_true h49.2, q50, h55, h56, f_o1, f_o15, f_o45, f_o51, (show IntKind.i64.wrap 1 = 1 from rfl)]
                  rcases ite_some hg with ⟨h59, hg⟩ | ⟨h59, hg⟩
                  · refine Br.yes h59 ?_
                    simp only [EVA, Nat.reduceAdd, Nat.reduceMul, Nat.reduceSub, Nat.reduceLeDiff, Nat.reduceLT, Nat.reduceBEq, Nat.reduceEqDiff, reduceIte, reduceCtorEq, Int.reduceLT, Int.reduceLE, Int.reduceToNat, Int.reducePow, Nat.reducePow, Int.reduceAdd, Int.reduceSub, Int.reduceNeg, Int.reduceEq, String.reduceEq, h5, eq_true h6, eq_true h7, eq_false h8, eq_true h42, eq_true h43.1, eq_true h43.2, q44, eq_true h49.1, eq_true h49.2, q50, h55, h56, eq_true h59, f_o1, f_o15, f_o45, f_o51, (show IntKind.i64.wrap 1 = 1 from rfl)]
                    rcases ite_some hg with ⟨h60, hg⟩ | ⟨h60, hg⟩
                    · refine Br.yes h60 ?_
                      simp only [EVA, Nat.reduceAdd, Nat.reduceMul, Nat.reduceSub, Nat.reduceLeDiff, Nat.reduceLT, Nat.reduceBEq, Nat.reduceEqDiff, reduceIte, reduceCtorEq, Int.reduceLT, Int.reduceLE, Int.reduceToNat, Int.reducePow, Nat.reducePow, Int.reduceAdd, Int.reduceSub, Int.reduceNeg, Int.reduceEq, String.reduceEq, h5, eq_true h6, eq_true h7, eq_false h8, eq_true h42, eq_true h43.1, eq_true h43.2, q44, eq_true h49.1, eq_true h49.2, q50, h55, h56, eq_true h59, eq_true h60, f_o1, f_o15, f_o45, f_o51, (show IntKind.i64.wrap 1 = 1 from rfl)]
                      rcases ite_some hg with ⟨h61, hg⟩ | ⟨h61, hg⟩
                      · refine Br.yes h61 ?_
                        simp only [EVA, Nat.reduceAdd, Nat.reduceMul, Nat.reduceSub, Nat.reduceLeDiff, Nat.reduceLT, Nat.reduceBEq, Nat.reduceEqDiff, reduceIte, reduceCtorEq, Int.reduceLT, Int.reduceLE, Int.reduceToNat, Int.reducePow, Nat.reducePow, Int.reduceAdd, Int.reduceSub, Int.reduceNeg, Int.reduceEq, String.reduceEq, h5, eq_true h6, eq_true h7, eq_false h8, eq_true h42, eq_true h43.1, eq_true h43.2, q44, eq_true h49.1, eq_true h49.2, q50, h55, h56, eq_true h59, eq_true h60, eq_true h61, f_o1, f_o15, f_o45, f_o51, (show IntKind.i64.wrap 1 = 1 from rfl)]
                        rcases ite_some hg with ⟨h62, hg⟩ | ⟨h62, hg⟩
                        · refine Br.yes h62 ?_
                          simp only [EVA, Nat.reduceAdd, Nat.reduceMul, Nat.reduceSub, Nat.reduceLeDiff, Nat.reduceLT, Nat.reduceBEq, Nat.reduceEqDiff, reduceIte, reduceCtorEq, Int.reduceLT, Int.reduceLE, Int.reduceToNat, Int.reducePow, Nat.reducePow, Int.reduceAdd, Int.reduceSub, Int.reduceNeg, Int.reduceEq, String.reduceEq, h5, eq_true h6, eq_true h7, eq_false h8, eq_true h42, eq_true h43.1, eq_true h43.2, q44, eq_true h49.1, eq_true h49.2, q50, h55, h56, eq_true h59, eq_true h60, eq_true h61, eq_true h62, f_o1, f_o15, f_o45, f_o51, (show IntKind.i64.wrap 1 = 1 from rfl)]
                          refine AWP.draw noY_sound [[], [0], [], [2], [2, 3], [0, 1, 2, 3, 4], [], [6], [], [8], [8, 9], [0, 1, 2, 3, 4, 5, 6, 7, 8, 9, 10], [0, 1, 2, 3, 4, 5, 6, 7], [0, 1, 2, 3, 4, 5, 6, 7, 8, 9, 10, 11, 12], [0, 1, 2, 3, 4, 5, 6, 7, 8, 9, 10, 11, 12, 13], [0, 1, 2, 3, 4, 5, 6, 7, 8, 9, 10, 11, 12, 13, 14]] [⟨0, false, []⟩, ⟨1, false, []⟩, ⟨2, false, []⟩, ⟨3, false, []⟩, ⟨4, false, []⟩, ⟨6, false, []⟩, ⟨7, false, []⟩, ⟨8, false, []⟩, ⟨9, false, []⟩, ⟨10, false, []⟩, ⟨5, true, [7, 9]⟩, ⟨12, false, []⟩, ⟨11, true, []⟩, ⟨13, true, []⟩, ⟨14, false, []⟩, ⟨15, true, []⟩] [0, 1, 2, 3, 4, 5, 6, 7, 8, 9, 10, 11, 12, 13, 14, 15] [0, 1, 2, 3, 4, 5, 6, 7, 8, 9, 10, 11, 12, 13, 14, 15] (by kernel_rfl) ?_
                          simp only [EVA, Nat.reduceAdd, Nat.reduceMul, Nat.reduceSub, Nat.reduceLeDiff, Nat.reduceLT, Nat.reduceBEq, Nat.reduceEqDiff, reduceIte, reduceCtorEq, Int.reduceLT, Int.reduceLE, Int.reduceToNat, Int.reducePow, Nat.reducePow, Int.reduceAdd, Int.reduceSub, Int.reduceNeg, Int.reduceEq, String.reduceEq, h5, eq_true h6, eq_true h7, eq_false h8, eq_true h42, eq_true h43.1, eq_true h43.2, q44, eq_true h49.1, eq_true h49.2, q50, h55, h56, eq_true h59, eq_true h60, eq_true h61, eq_true h62, f_o1, f_o15, f_o45, f_o51, (show IntKind.i64.wrap 1 = 1 from rfl)]
                          obtain ⟨h68, hg⟩ := guard_some hg
                          refine AppE.goM (H0 := H) (AV.int .i64) x20 ([(rd a2 x19).c0] : List Int) (n := 17592186044416) ty22 rfl ty3 rfl rfl (by decide) (.dl 1 [.int .i64 ((rd a2 x19).c0)] .full) (wkD.refl _) (srcA_dl ty22 rfl) (.inl rfl) h68 (by decide) (by decide) hE F30 ?_
                          intro tl63 H64 hE F65 p66 q67 l9
                          have f_o1 := p66 _ _ (cnt _) f_o1
                          have f_o15 := p66 _ _ (cnt _) f_o15
                          have f_o45 := p66 _ _ (cnt _) f_o45
                          have f_o51 := p66 _ _ (cnt _) f_o51
                          obtain ⟨F31, D69⟩ := q67 _ F31 D34
                          obtain ⟨F32, D70⟩ := q67 _ F32 D35
                          obtain ⟨F33, D71⟩ := q67 _ F33 D36
                          simp only [EVA, Nat.reduceAdd, Nat.reduceMul, Nat.reduceSub, Nat.reduceLeDiff, Nat.reduceLT, Nat.reduceBEq, Nat.reduceEqDiff, reduceIte, reduceCtorEq, Int.reduceLT, Int.reduceLE, Int.reduceToNat, Int.reducePow, Nat.reducePow, Int.reduceAdd, Int.reduceSub, Int.reduceNeg, Int.reduceEq, String.reduceEq, h5, eq_true h6, eq_true h7, eq_false h8, eq_true h42, eq_true h43.1, eq_true h43.2, q44, eq_true h49.1, eq_true h49.2, q50, h55, h56, eq_true h59, eq_true h60, eq_true h61, eq_true h62, f_o1, f_o15, f_o45, f_o51, (show IntKind.i64.wrap 1 = 1 from rfl)]
                          obtain ⟨h77, hg⟩ := guard_some hg
                          refine AppE.goM (H0 := H) (AV.int .i64) x22 ([(rd a3 x19).c0] : List Int) (n := 17592186044416) ty22 rfl ty3 rfl rfl (by decide) (.dl 1 [.int .i64 ((rd a3 x19).c0)] .full) (wkD.refl _) (srcA_dl ty22 rfl) (.inl rfl) h77 (by decide) (by decide) hE F31 ?_
                          intro tl72 H73 hE F74 p75 q76 l9
                          have f_o1 := p75 _ _ (cnt _) f_o1
                          have f_o15 := p75 _ _ (cnt _) f_o15
                          have f_o45 := p75 _ _ (cnt _) f_o45
                          have f_o51 := p75 _ _ (cnt _) f_o51
                          obtain ⟨F32, D78⟩ := q76 _ F32 D37
                          obtain ⟨F33, D79⟩ := q76 _ F33 D38
                          obtain ⟨F65, D80⟩ := q76 _ F65 D69.symm
                          simp only [EVA, Nat.reduceAdd, Nat.reduceMul, Nat.reduceSub, Nat.reduceLeDiff, Nat.reduceLT, Nat.reduceBEq, Nat.reduceEqDiff, reduceIte, reduceCtorEq, Int.reduceLT, Int.reduceLE, Int.reduceToNat, Int.reducePow, Nat.reducePow, Int.reduceAdd, Int.reduceSub, Int.reduceNeg, Int.reduceEq, String.reduceEq, h5, eq_true h6, eq_true h7, eq_false h8, eq_true h42, eq_true h43.1, eq_true h43.2, q44, eq_true h49.1, eq_true h49.2, q50, h55, h56, eq_true h59, eq_true h60, eq_true h61, eq_true h62, f_o1, f_o15, f_o45, f_o51, (show IntKind.i64.wrap 1 = 1 from rfl)]
                          refine eop_store_go (H0 := H) (id := o15) (off := 2) (v := .dl 1 (List.map (AV.int .i64) (x20 ++ ([(rd a2 x19).c0] : List Int))) tl63) rfl rfl f_o15 ty22 rfl rfl (Nat.le_of_ble_eq_true rfl) hE g_o15 ?_
                          intro H81 hE f9_o15 p82 l9
                          have F32 := F32.keep f_o15 p82
                          have F33 := F33.keep f_o15 p82
                          have F65 := F65.keep f_o15 p82
                          have F74 := F74.keep f_o15 p82
                          have f_o1 := p82 _ _ ne_o1_o15 f_o1
                          have f_o45 := p82 _ _ (Ne.symm ne_o15_o45) f_o45
                          have f_o51 := p82 _ _ (Ne.symm ne_o15_o51) f_o51
                          have f_o15 : H81[o15]? = some (.cells ([.int .i64 a0, .int .i64 a1, .dl 1 (List.map (AV.int .i64) (x20 ++ ([(rd a2 x19).c0] : List Int))) tl63, .dl 1 (List.map (AV.int .i64) x22) tl23, .dl 1 (List.map (AV.int .u64) v11) .none, .dl 1 (List.map (AV.int .u64) x24) tl25, .dl 1 (List.map (AV.int .u64) x26) tl27])) := f9_o15
                          simp only [EVA, Nat.reduceAdd, Nat.reduceMul, Nat.reduceSub, Nat.reduceLeDiff, Nat.reduceLT, Nat.reduceBEq, Nat.reduceEqDiff, reduceIte, reduceCtorEq, Int.reduceLT, Int.reduceLE, Int.reduceToNat, Int.reducePow, Nat.reducePow, Int.reduceAdd, Int.reduceSub, Int.reduceNeg, Int.reduceEq, String.reduceEq, h5, eq_true h6, eq_true h7, eq_false h8, eq_true h42, eq_true h43.1, eq_true h43.2, q44, eq_true h49.1, eq_true h49.2, q50, h55, h56, eq_true h59, eq_true h60, eq_true h61, eq_true h62, f_o1, f_o15, f_o45, f_o51, (show IntKind.i64.wrap 1 = 1 from rfl)]
                          refine eop_store_go (H0 := H) (id := o15) (off := 3) (v := .dl 1 (List.map (AV.int .i64) (x22 ++ ([(rd a3 x19).c0] : List Int))) tl72) rfl rfl f_o15 ty22 rfl rfl (Nat.le_of_ble_eq_true rfl) hE g_o15 ?_
                          intro H83 hE f9_o15 p84 l9
                          have F32 := F32.keep f_o15 p84
                          have F33 := F33.keep f_o15 p84
                          have F65 := F65.keep f_o15 p84
                          have F74 := F74.keep f_o15 p84
                          have f_o1 := p84 _ _ ne_o1_o15 f_o1
                          have f_o45 := p84 _ _ (Ne.symm ne_o15_o45) f_o45
                          have f_o51 := p84 _ _ (Ne.symm ne_o15_o51) f_o51
                          have f_o15 : H83[o15]? = some (.cells ([.int .i64 a0, .int .i64 a1, .dl 1 (List.map (AV.int .i64) (x20 ++ ([(rd a2 x19).c0] : List Int))) tl63, .dl 1 (List.map (AV.int .i64) (x22 ++ ([(rd a3 x19).c0] : List Int))) tl72, .dl 1 (List.map (AV.int .u64) v11) .none, .dl 1 (List.map (AV.int .u64) x24) tl25, .dl 1 (List.map (AV.int .u64) x26) tl27])) := f9_o15
                          simp only [EVA, Nat.reduceAdd, Nat.reduceMul, Nat.reduceSub, Nat.reduceLeDiff, Nat.reduceLT, Nat.reduceBEq, Nat.reduceEqDiff, reduceIte, reduceCtorEq, Int.reduceLT, Int.reduceLE, Int.reduceToNat, Int.reducePow, Nat.reducePow, Int.reduceAdd, Int.reduceSub, Int.reduceNeg, Int.reduceEq, String.reduceEq, h5, eq_true h6, eq_true h7, eq_false h8, eq_true h42, eq_true h43.1, eq_true h43.2, q44, eq_true h49.1, eq_true h49.2, q50, h55, h56, eq_true h59, eq_true h60, eq_true h61, eq_true h62, f_o1, f_o15, f_o45, f_o51, (show IntKind.i64.wrap 1 = 1 from rfl)]
                          refine AWP.draw noY_sound [[], [0], [], [2], [2, 3], [0, 1, 2, 3, 4], [], [6], [], [], [8, 9], [8, 9, 10], [0, 1, 2, 3, 4, 5, 8, 9, 10, 11], [0, 1, 2, 3, 4, 5, 8, 9, 10, 11, 12], [0, 1, 2, 3, 4, 5, 6, 7, 8, 9, 10, 11, 12, 13], [0, 1, 2, 3, 4, 5, 6, 7], [0, 1, 2, 3, 4, 5, 6, 7, 8, 9, 10, 11, 12, 13, 14, 15], [0, 1, 2, 3, 4, 5, 6, 7, 8, 9, 10, 11, 12, 13, 14, 15, 16], [0, 1, 2, 3, 4, 5, 6, 7, 8, 9, 10, 11, 12, 13, 14, 15, 16, 17]] [⟨0, false, []⟩, ⟨1, false, []⟩, ⟨2, false, []⟩, ⟨3, false, []⟩, ⟨4, false, []⟩, ⟨6, false, []⟩, ⟨7, false, []⟩, ⟨8, false, []⟩, ⟨9, false, []⟩, ⟨10, false, []⟩, ⟨11, false, []⟩, ⟨5, true, [7, 11]⟩, ⟨15, false, []⟩, ⟨12, true, [7]⟩, ⟨13, false, []⟩, ⟨14, true, []⟩, ⟨16, true, []⟩, ⟨17, false, []⟩, ⟨18, true, []⟩] [0, 1, 2, 3, 4, 5, 6, 7, 8, 9, 10, 11, 12, 13, 14, 15, 16, 17, 18] [0, 1, 2, 3, 4, 5, 6, 7, 8, 9, 10, 11, 12, 13, 14, 15, 16, 17, 18] (by kernel_rfl) ?_
                          obtain ⟨h85, hg⟩ := guard_some hg
                          have q86 : List.getD (List.map encL3 a5) (Int.toNat x19) AV.undef = encL3 (rd a5 x19) := rd_map (l := a5) (i := x19) encL3 h85
                          simp only [EVA, Nat.reduceAdd, Nat.reduceMul, Nat.reduceSub, Nat.reduceLeDiff, Nat.reduceLT, Nat.reduceBEq, Nat.reduceEqDiff, reduceIte, reduceCtorEq, Int.reduceLT, Int.reduceLE, Int.reduceToNat, Int.reducePow, Nat.reducePow, Int.reduceAdd, Int.reduceSub, Int.reduceNeg, Int.reduceEq, String.reduceEq, h5, eq_true h6, eq_true h7, eq_false h8, eq_true h42, eq_true h43.1, eq_true h43.2, q44, eq_true h49.1, eq_true h49.2, q50, h55, h56, eq_true h59, eq_true h60, eq_true h61, eq_true h62, eq_true h85.1, eq_true h85.2, q86, f_o1, f_o15, f_o45, f_o51, (show IntKind.i64.wrap 1 = 1 from rfl)]
                          obtain ⟨h92, hg⟩ := guard_some hg
                          refine AppE.goM (H0 := H) (AV.int .u64) x24 ([(rd a3 x19).c6] : List Int) (n := 17592186044416) ty27 rfl ty53 rfl rfl (by decide) (.dl 1 [.int .u64 ((rd a3 x19).c6)] .full) (wkD.refl _) (srcA_dl ty27 rfl) (.inl rfl) h92 (by decide) (by decide) hE F32 ?_
                          intro tl87 H88 hE F89 p90 q91 l9
                          have f_o1 := p90 _ _ (cnt _) f_o1
                          have f_o15 := p90 _ _ (cnt _) f_o15
                          have f_o45 := p90 _ _ (cnt _) f_o45
                          have f_o51 := p90 _ _ (cnt _) f_o51
                          obtain ⟨F33, D93⟩ := q91 _ F33 D39
                          obtain ⟨F65, D94⟩ := q91 _ F65 D70.symm
                          obtain ⟨F74, D95⟩ := q91 _ F74 D78.symm
                          simp only [EVA, Nat.reduceAdd, Nat.reduceMul, Nat.reduceSub, Nat.reduceLeDiff, Nat.reduceLT, Nat.reduceBEq, Nat.reduceEqDiff, reduceIte, reduceCtorEq, Int.reduceLT, Int.reduceLE, Int.reduceToNat, Int.reducePow, Nat.reducePow, Int.reduceAdd, Int.reduceSub, Int.reduceNeg, Int.reduceEq, String.reduceEq, h5, eq_true h6, eq_true h7, eq_false h8, eq_true h42, eq_true h43.1, eq_true h43.2, q44, eq_true h49.1, eq_true h49.2, q50, h55, h56, eq_true h59, eq_true h60, eq_true h61, eq_true h62, eq_true h85.1, eq_true h85.2, q86, f_o1, f_o15, f_o45, f_o51, (show IntKind.i64.wrap 1 = 1 from rfl)]
                          obtain ⟨v96, ch97, hg⟩ := bind_some hg
                          refine ACall.wkA (args := [.dl 7 (List.map encS1 (rd a5 x19)) .none]) (c23 B w0 n (rd a5 x19) .none _ _ v96 ch97  ?_) (WkA.cons (wkA.refl _) WkA.nil)
                          intro H98 x99
                          have F33 := F33.mono x99
                          have F65 := F65.mono x99
                          have F74 := F74.mono x99
                          have F89 := F89.mono x99
                          have f_o1 := x99.2 _ _ f_o1
                          have f_o15 := x99.2 _ _ f_o15
                          have f_o45 := x99.2 _ _ f_o45
                          have f_o51 := x99.2 _ _ f_o51
                          have hE := hE.trans x99
                          simp only [EVA, Nat.reduceAdd, Nat.reduceMul, Nat.reduceSub, Nat.reduceLeDiff, Nat.reduceLT, Nat.reduceBEq, Nat.reduceEqDiff, reduceIte, reduceCtorEq, Int.reduceLT, Int.reduceLE, Int.reduceToNat, Int.reducePow, Nat.reducePow, Int.reduceAdd, Int.reduceSub, Int.reduceNeg, Int.reduceEq, String.reduceEq, h5, eq_true h6, eq_true h7, eq_false h8, eq_true h42, eq_true h43.1, eq_true h43.2, q44, eq_true h49.1, eq_true h49.2, q50, h55, h56, eq_true h59, eq_true h60, eq_true h61, eq_true h62, eq_true h85.1, eq_true h85.2, q86, f_o1, f_o15, f_o45, f_o51, (show IntKind.i64.wrap 1 = 1 from rfl)]
                          obtain ⟨h105, hg⟩ := guard_some hg
                          refine AppE.goM (H0 := H) (AV.int .u64) x26 ([v96] : List Int) (n := 17592186044416) ty27 rfl ty53 rfl rfl (by decide) (.dl 1 [.int .u64 v96] .full) (wkD.refl _) (srcA_dl ty27 rfl) (.inl rfl) h105 (by decide) (by decide) hE F33 ?_
                          intro tl100 H101 hE F102 p103 q104 l9
                          have f_o1 := p103 _ _ (cnt _) f_o1
                          have f_o15 := p103 _ _ (cnt _) f_o15
                          have f_o45 := p103 _ _ (cnt _) f_o45
                          have f_o51 := p103 _ _ (cnt _) f_o51
                          obtain ⟨F65, D106⟩ := q104 _ F65 D71.symm
                          obtain ⟨F74, D107⟩ := q104 _ F74 D79.symm
                          obtain ⟨F89, D108⟩ := q104 _ F89 D93.symm
                          simp only [EVA, Nat.reduceAdd, Nat.reduceMul, Nat.reduceSub, Nat.reduceLeDiff, Nat.reduceLT, Nat.reduceBEq, Nat.reduceEqDiff, reduceIte, reduceCtorEq, Int.reduceLT, Int.reduceLE, Int.reduceToNat, Int.reducePow, Nat.reducePow, Int.reduceAdd, Int.reduceSub, Int.reduceNeg, Int.reduceEq, String.reduceEq, h5, eq_true h6, eq_true h7, eq_false h8, eq_true h42, eq_true h43.1, eq_true h43.2, q44, eq_true h49.1, eq_true h49.2, q50, h55, h56, eq_true h59, eq_true h60, eq_true h61, eq_true h62, eq_true h85.1, eq_true h85.2, q86, f_o1, f_o15, f_o45, f_o51, (show IntKind.i64.wrap 1 = 1 from rfl)]
                          refine eop_store_go (H0 := H) (id := o15) (off := 5) (v := .dl 1 (List.map (AV.int .u64) (x24 ++ ([(rd a3 x19).c6] : List Int))) tl87) rfl rfl f_o15 ty27 rfl rfl (Nat.le_of_ble_eq_true rfl) hE g_o15 ?_
                          intro H109 hE f9_o15 p110 l9
                          have F65 := F65.keep f_o15 p110
                          have F74 := F74.keep f_o15 p110
                          have F89 := F89.keep f_o15 p110
                          have F102 := F102.keep f_o15 p110
                          have f_o1 := p110 _ _ ne_o1_o15 f_o1
                          have f_o45 := p110 _ _ (Ne.symm ne_o15_o45) f_o45
                          have f_o51 := p110 _ _ (Ne.symm ne_o15_o51) f_o51
                          have f_o15 : H109[o15]? = some (.cells ([.int .i64 a0, .int .i64 a1, .dl 1 (List.map (AV.int .i64) (x20 ++ ([(rd a2 x19).c0] : List Int))) tl63, .dl 1 (List.map (AV.int .i64) (x22 ++ ([(rd a3 x19).c0] : List Int))) tl72, .dl 1 (List.map (AV.int .u64) v11) .none, .dl 1 (List.map (AV.int .u64) (x24 ++ ([(rd a3 x19).c6] : List Int))) tl87, .dl 1 (List.map (AV.int .u64) x26) tl27])) := f9_o15
                          simp only [EVA, Nat.reduceAdd, Nat.reduceMul, Nat.reduceSub, Nat.reduceLeDiff, Nat.reduceLT, Nat.reduceBEq, Nat.reduceEqDiff, reduceIte, reduceCtorEq, Int.reduceLT, Int.reduceLE, Int.reduceToNat, Int.reducePow, Nat.reducePow, Int.reduceAdd, Int.reduceSub, Int.reduceNeg, Int.reduceEq, String.reduceEq, h5, eq_true h6, eq_true h7, eq_false h8, eq_true h42, eq_true h43.1, eq_true h43.2, q44, eq_true h49.1, eq_true h49.2, q50, h55, h56, eq_true h59, eq_true h60, eq_true h61, eq_true h62, eq_true h85.1, eq_true h85.2, q86, f_o1, f_o15, f_o45, f_o51, (show IntKind.i64.wrap 1 = 1 from rfl)]
                          refine eop_store_go (H0 := H) (id := o15) (off := 6) (v := .dl 1 (List.map (AV.int .u64) (x26 ++ ([v96] : List Int))) tl100) rfl rfl f_o15 ty27 rfl rfl (Nat.le_of_ble_eq_true rfl) hE g_o15 ?_
                          intro H111 hE f9_o15 p112 l9
                          have F65 := F65.keep f_o15 p112
                          have F74 := F74.keep f_o15 p112
                          have F89 := F89.keep f_o15 p112
                          have F102 := F102.keep f_o15 p112
                          have f_o1 := p112 _ _ ne_o1_o15 f_o1
                          have f_o45 := p112 _ _ (Ne.symm ne_o15_o45) f_o45
                          have f_o51 := p112 _ _ (Ne.symm ne_o15_o51) f_o51
                          have f_o15 : H111[o15]? = some (.cells ([.int .i64 a0, .int .i64 a1, .dl 1 (List.map (AV.int .i64) (x20 ++ ([(rd a2 x19).c0] : List Int))) tl63, .dl 1 (List.map (AV.int .i64) (x22 ++ ([(rd a3 x19).c0] : List Int))) tl72, .dl 1 (List.map (AV.int .u64) v11) .none, .dl 1 (List.map (AV.int .u64) (x24 ++ ([(rd a3 x19).c6] : List Int))) tl87, .dl 1 (List.map (AV.int .u64) (x26 ++ ([v96] : List Int))) tl100])) := f9_o15
                          simp only [EVA, Nat.reduceAdd, Nat.reduceMul, Nat.reduceSub, Nat.reduceLeDiff, Nat.reduceLT, Nat.reduceBEq, Nat.reduceEqDiff, reduceIte, reduceCtorEq, Int.reduceLT, Int.reduceLE, Int.reduceToNat, Int.reducePow, Nat.reducePow, Int.reduceAdd, Int.reduceSub, Int.reduceNeg, Int.reduceEq, String.reduceEq, h5, eq_true h6, eq_true h7, eq_false h8, eq_true h42, eq_true h43.1, eq_true h43.2, q44, eq_true h49.1, eq_true h49.2, q50, h55, h56, eq_true h59, eq_true h60, eq_true h61, eq_true h62, eq_true h85.1, eq_true h85.2, q86, f_o1, f_o15, f_o45, f_o51, (show IntKind.i64.wrap 1 = 1 from rfl)]
                          exact ⟨⟨k28, IntKind.i64.wrap (x19 + 1), x20 ++ ([(rd a2 x19).c0] : List Int), x22 ++ ([(rd a3 x19).c0] : List Int), x24 ++ ([(rd a3 x19).c6] : List Int), x26 ++ ([v96] : List Int), tl63, tl72, tl87, tl100⟩, (by repeat' first | exact Wk.nil | apply Wk.u | apply Wk.r), ⟨hg, hE, f_o1, ⟨_, f_o15, (by repeat' first | exact Wk.nil | apply Wk.u | apply Wk.r)⟩, F65, F74, F89, F102, D80.symm, D94.symm, D106.symm, D95.symm, D107.symm, D108.symm⟩, Nat.lt_succ_self _⟩
                        · refine Br.no h62 ?_
                          simp only [EVA, Nat.reduceAdd, Nat.reduceMul, Nat.reduceSub, Nat.reduceLeDiff, Nat.reduceLT, Nat.reduceBEq, Nat.reduceEqDiff, reduceIte, reduceCtorEq, Int.reduceLT, Int.reduceLE, Int.reduceToNat, Int.reducePow, Nat.reducePow, Int.reduceAdd, Int.reduceSub, Int.reduceNeg, Int.reduceEq, String.reduceEq, h5, eq_true h6, eq_true h7, eq_false h8, eq_true h42, eq_true h43.1, eq_true h43.2, q44, eq_true h49.1, eq_true h49.2, q50, h55, h56, eq_true h59, eq_true h60, eq_true h61, eq_false h62, f_o1, f_o15, f_o45, f_o51, (show IntKind.i64.wrap 1 = 1 from rfl)]
                          refine eop_store_go (H0 := H) (id := o1) (off := 0) (v := .agg [.int .i64 0, .int .i64 0, .dl 0 [] .full, .dl 0 [] .full, .dl 0 [] .full, .dl 0 [] .full, .dl 0 [] .full]) rfl rfl f_o1 ty33 rfl rfl (Nat.le_of_ble_eq_true rfl) hE g_o1 ?_
                          intro H113 hE f9_o1 p114 l9
                          have F30 := F30.keep f_o1 p114
                          have F31 := F31.keep f_o1 p114
                          have F32 := F32.keep f_o1 p114
                          have F33 := F33.keep f_o1 p114
                          have f_o15 := p114 _ _ (Ne.symm ne_o1_o15) f_o15
                          have f_o45 := p114 _ _ (Ne.symm ne_o1_o45) f_o45
                          have f_o51 := p114 _ _ (Ne.symm ne_o1_o51) f_o51
                          have f_o1 : H113[o1]? = some (.cells ([.int .i64 0, .int .i64 0, .dl 0 [] .full, .dl 0 [] .full, .dl 0 [] .full, .dl 0 [] .full, .dl 0 [] .full])) := f9_o1
                          simp only [EVA, Nat.reduceAdd, Nat.reduceMul, Nat.reduceSub, Nat.reduceLeDiff, Nat.reduceLT, Nat.reduceBEq, Nat.reduceEqDiff, reduceIte, reduceCtorEq, Int.reduceLT, Int.reduceLE, Int.reduceToNat, Int.reducePow, Nat.reducePow, Int.reduceAdd, Int.reduceSub, Int.reduceNeg, Int.reduceEq, String.reduceEq, rs11, h5, eq_true h6, eq_true h7, eq_false h8, eq_true h42, eq_true h43.1, eq_true h43.2, q44, eq_true h49.1, eq_true h49.2, q50, h55, h56, eq_true h59, eq_true h60, eq_true h61, eq_false h62, f_o1, f_o15, f_o45, f_o51, (show IntKind.i64.wrap 1 = 1 from rfl)]
                          obtain rfl := Option.some.inj hg
                          exact ⟨_, (wkR.tup (WkA.cons (wkA.agg (by repeat' first | exact Wk.nil | apply Wk.u | apply Wk.r | apply Wk.cons (wkV.nil _ _ _))) (WkA.cons (wkA.refl _) WkA.nil))), (hK  _ hE )⟩
                      · refine Br.no h61 ?_
                        simp only [EVA, Nat.reduceAdd, Nat.reduceMul, Nat.reduceSub, Nat.reduceLeDiff, Nat.reduceLT, Nat.reduceBEq, Nat.reduceEqDiff, reduceIte, reduceCtorEq, Int.reduceLT, Int.reduceLE, Int.reduceToNat, Int.reducePow, Nat.reducePow, Int.reduceAdd, Int.reduceSub, Int.reduceNeg, Int.reduceEq, String.reduceEq, h5, eq_true h6, eq_true h7, eq_false h8, eq_true h42, eq_true h43.1, eq_true h43.2, q44, eq_true h49.1, eq_true h49.2, q50, h55, h56, eq_true h59, eq_true h60, eq_false h61, f_o1, f_o15, f_o45, f_o51, (show IntKind.i64.wrap 1 = 1 from rfl)]
                        refine eop_store_go (H0 := H) (id := o1) (off := 0) (v := .agg [.int .i64 0, .int .i64 0, .dl 0 [] .full, .dl 0 [] .full, .dl 0 [] .full, .dl 0 [] .full, .dl 0 [] .full]) rfl rfl f_o1 ty33 rfl rfl (Nat.le_of_ble_eq_true rfl) hE g_o1 ?_
                        intro H115 hE f9_o1 p116 l9
                        have F30 := F30.keep f_o1 p116
                        have F31 := F31.keep f_o1 p116
                        have F32 := F32.keep f_o1 p116
                        have F33 := F33.keep f_o1 p116
                        have f_o15 := p116 _ _ (Ne.symm ne_o1_o15) f_o15
                        have f_o45 := p116 _ _ (Ne.symm ne_o1_o45) f_o45
                        have f_o51 := p116 _ _ (Ne.symm ne_o1_o51) f_o51
                        have f_o1 : H115[o1]? = some (.cells ([.int .i64 0, .int .i64 0, .dl 0 [] .full, .dl 0 [] .full, .dl 0 [] .full, .dl 0 [] .full, .dl 0 [] .full])) := f9_o1
                        simp only [EVA, Nat.reduceAdd, Nat.reduceMul, Nat.reduceSub, Nat.reduceLeDiff, Nat.reduceLT, Nat.reduceBEq, Nat.reduceEqDiff, reduceIte, reduceCtorEq, Int.reduceLT, Int.reduceLE, Int.reduceToNat, Int.reducePow, Nat.reducePow, Int.reduceAdd, Int.reduceSub, Int.reduceNeg, Int.reduceEq, String.reduceEq, rs11, h5, eq_true h6, eq_true h7, eq_false h8, eq_true h42, eq_true h43.1, eq_true h43.2, q44, eq_true h49.1, eq_true h49.2, q50, h55, h56, eq_true h59, eq_true h60, eq_false h61, f_o1, f_o15, f_o45, f_o51, (show IntKind.i64.wrap 1 = 1 from rfl)]
                        obtain rfl := Option.some.inj hg
                        exact ⟨_, (wkR.tup (WkA.cons (wkA.agg (by repeat' first | exact Wk.nil | apply Wk.u | apply Wk.r | apply Wk.cons (wkV.nil _ _ _))) (WkA.cons (wkA.refl _) WkA.nil))), (hK  _ hE )⟩
                    · refine Br.no h60 ?_
                      simp only [EVA, Nat.reduceAdd, Nat.reduceMul, Nat.reduceSub, Nat.reduceLeDiff, Nat.reduceLT, Nat.reduceBEq, Nat.reduceEqDiff, reduceIte, reduceCtorEq, Int.reduceLT, Int.reduceLE, Int.reduceToNat, Int.reducePow, Nat.reducePow, Int.reduceAdd, Int.reduceSub, Int.reduceNeg, Int.reduceEq, String.reduceEq, h5, eq_true h6, eq_true h7, eq_false h8, eq_true h42, eq_true h43.1, eq_true h43.2, q44, eq_true h49.1, eq_true h49.2, q50, h55, h56, eq_true h59, eq_false h60, f_o1, f_o15, f_o45, f_o51, (show IntKind.i64.wrap 1 = 1 from rfl)]
                      refine eop_store_go (H0 := H) (id := o1) (off := 0) (v := .agg [.int .i64 0, .int .i64 0, .dl 0 [] .full, .dl 0 [] .full, .dl 0 [] .full, .dl 0 [] .full, .dl 0 [] .full]) rfl rfl f_o1 ty33 rfl rfl (Nat.le_of_ble_eq_true rfl) hE g_o1 ?_
                      intro H117 hE f9_o1 p118 l9
                      have F30 := F30.keep f_o1 p118
                      have F31 := F31.keep f_o1 p118
                      have F32 := F32.keep f_o1 p118
                      have F33 := F33.keep f_o1 p118
                      have f_o15 := p118 _ _ (Ne.symm ne_o1_o15) f_o15
                      have f_o45 := p118 _ _ (Ne.symm ne_o1_o45) f_o45
                      have f_o51 := p118 _ _ (Ne.symm ne_o1_o51) f_o51
                      have f_o1 : H117[o1]? = some (.cells ([.int .i64 0, .int .i64 0, .dl 0 [] .full, .dl 0 [] .full, .dl 0 [] .full, .dl 0 [] .full, .dl 0 [] .full])) := f9_o1
                      simp only [EVA, Nat.reduceAdd, Nat.reduceMul, Nat.reduceSub, Nat.reduceLeDiff, Nat.reduceLT, Nat.reduceBEq, Nat.reduceEqDiff, reduceIte, reduceCtorEq, Int.reduceLT, Int.reduceLE, Int.reduceToNat, Int.reducePow, Nat.reducePow, Int.reduceAdd, Int.reduceSub, Int.reduceNeg, Int.reduceEq, String.reduceEq, rs11, h5, eq_true h6, eq_true h7, eq_false h8, eq_true h42, eq_true h43.1, eq_true h43.2, q44, eq_true h49.1, eq_true h49.2, q50, h55, h56, eq_true h59, eq_false h60, f_o1, f_o15, f_o45, f_o51, (show IntKind.i64.wrap 1 = 1 from rfl)]
                      obtain rfl := Option.some.inj hg
                      exact ⟨_, (wkR.tup (WkA.cons (wkA.agg (by repeat' first | exact Wk.nil | apply Wk.u | apply Wk.r | apply Wk.cons (wkV.nil _ _ _))) (WkA.cons (wkA.refl _) WkA.nil))), (hK  _ hE )⟩
                  · refine Br.no h59 ?_
                    simp only [EVA, Nat.reduceAdd, Nat.reduceMul, Nat.reduceSub, Nat.reduceLeDiff, Nat.reduceLT, Nat.reduceBEq, Nat.reduceEqDiff, reduceIte, reduceCtorEq, Int.reduceLT, Int.reduceLE, Int.reduceToNat, Int.reducePow, Nat.reducePow, Int.reduceAdd, Int.reduceSub, Int.reduceNeg, Int.reduceEq, String.reduceEq, h5, eq_true h6, eq_true h7, eq_false h8, eq_true h42, eq_true h43.1, eq_true h43.2, q44, eq_true h49.1, eq_true h49.2, q50, h55, h56, eq_false h59, f_o1, f_o15, f_o45, f_o51, (show IntKind.i64.wrap 1 = 1 from rfl)]
                    refine eop_store_go (H0 := H) (id := o1) (off := 0) (v := .agg [.int .i64 0, .int .i64 0, .dl 0 [] .full, .dl 0 [] .full, .dl 0 [] .full, .dl 0 [] .full, .dl 0 [] .full]) rfl rfl f_o1 ty33 rfl rfl (Nat.le_of_ble_eq_true rfl) hE g_o1 ?_
                    intro H119 hE f9_o1 p120 l9
                    have F30 := F30.keep f_o1 p120
                    have F31 := F31.keep f_o1 p120
                    have F32 := F32.keep f_o1 p120
                    have F33 := F33.keep f_o1 p120
                    have f_o15 := p120 _ _ (Ne.symm ne_o1_o15) f_o15
                    have f_o45 := p120 _ _ (Ne.symm ne_o1_o45) f_o45
                    have f_o51 := p120 _ _ (Ne.symm ne_o1_o51) f_o51
                    have f_o1 : H119[o1]? = some (.cells ([.int .i64 0, .int .i64 0, .dl 0 [] .full, .dl 0 [] .full, .dl 0 [] .full, .dl 0 [] .full, .dl 0 [] .full])) := f9_o1
                    simp only [EVA, Nat.reduceAdd, Nat.reduceMul, Nat.reduceSub, Nat.reduceLeDiff, Nat.reduceLT, Nat.reduceBEq, Nat.reduceEqDiff, reduceIte, reduceCtorEq, Int.reduceLT, Int.reduceLE, Int.reduceToNat, Int.reducePow, Nat.reducePow, Int.reduceAdd, Int.reduceSub, Int.reduceNeg, Int.reduceEq, String.reduceEq, rs11, h5, eq_true h6, eq_true h7, eq_false h8, eq_true h42, eq_true h43.1, eq_true h43.2, q44, eq_true h49.1, eq_true h49.2, q50, h55, h56, eq_false h59, f_o1, f_o15, f_o45, f_o51, (show IntKind.i64.wrap 1 = 1 from rfl)]
                    obtain rfl := Option.some.inj hg
                    exact ⟨_, (wkR.tup (WkA.cons (wkA.agg (by repeat' first | exact Wk.nil | apply Wk.u | apply Wk.r | apply Wk.cons (wkV.nil _ _ _))) (WkA.cons (wkA.refl _) WkA.nil))), (hK  _ hE )⟩
              · have h55 := Bool.eq_false_iff.2 h55
                simp only [EVA, Nat.reduceAdd, Nat.reduceMul, Nat.reduceSub, Nat.reduceLeDiff, Nat.reduceLT, Nat.reduceBEq, Nat.reduceEqDiff, reduceIte, reduceCtorEq, Int.reduceLT, Int.reduceLE, Int.reduceToNat, Int.reducePow, Nat.reducePow, Int.reduceAdd, Int.reduceSub, Int.reduceNeg, Int.reduceEq, String.reduceEq, h5, eq_true h6, eq_true h7, eq_false h8, eq_true h42, eq_true h43.1, eq_true h43.2, q44, eq_true h49.1, eq_true h49.2, q50, h55, f_o1, f_o15, f_o45, f_o51, (show IntKind.i64.wrap 1 = 1 from rfl)]
                refine eop_store_go (H0 := H) (id := o1) (off := 0) (v := .agg [.int .i64 0, .int .i64 0, .dl 0 [] .full, .dl 0 [] .full, .dl 0 [] .full, .dl 0 [] .full, .dl 0 [] .full]) rfl rfl f_o1 ty33 rfl rfl (Nat.le_of_ble_eq_true rfl) hE g_o1 ?_
                intro H121 hE f9_o1 p122 l9
                have F30 := F30.keep f_o1 p122
                have F31 := F31.keep f_o1 p122
                have F32 := F32.keep f_o1 p122
                have F33 := F33.keep f_o1 p122
                have f_o15 := p122 _ _ (Ne.symm ne_o1_o15) f_o15
                have f_o45 := p122 _ _ (Ne.symm ne_o1_o45) f_o45
                have f_o51 := p122 _ _ (Ne.symm ne_o1_o51) f_o51
                have f_o1 : H121[o1]? = some (.cells ([.int .i64 0, .int .i64 0, .dl 0 [] .full, .dl 0 [] .full, .dl 0 [] .full, .dl 0 [] .full, .dl 0 [] .full])) := f9_o1
                simp only [EVA, Nat.reduceAdd, Nat.reduceMul, Nat.reduceSub, Nat.reduceLeDiff, Nat.reduceLT, Nat.reduceBEq, Nat.reduceEqDiff, reduceIte, reduceCtorEq, Int.reduceLT, Int.reduceLE, Int.reduceToNat, Int.reducePow, Nat.reducePow, Int.reduceAdd, Int.reduceSub, Int.reduceNeg, Int.reduceEq, String.reduceEq, rs11, h5, eq_true h6, eq_true h7, eq_false h8, eq_true h42, eq_true h43.1, eq_true h43.2, q44, eq_true h49.1, eq_true h49.2, q50, h55, f_o1, f_o15, f_o45, f_o51, (show IntKind.i64.wrap 1 = 1 from rfl)]
                obtain rfl := Option.some.inj hg
                exact ⟨_, (wkR.tup (WkA.cons (wkA.agg (by repeat' first | exact Wk.nil | apply Wk.u | apply Wk.r | apply Wk.cons (wkV.nil _ _ _))) (WkA.cons (wkA.refl _) WkA.nil))), (hK  _ hE )⟩
            · refine Br.no h42 ?_
              simp only [EVA, Nat.reduceAdd, Nat.reduceMul, Nat.reduceSub, Nat.reduceLeDiff, Nat.reduceLT, Nat.reduceBEq, Nat.reduceEqDiff, reduceIte, reduceCtorEq, Int.reduceLT, Int.reduceLE, Int.reduceToNat, Int.reducePow, Nat.reducePow, Int.reduceAdd, Int.reduceSub, Int.reduceNeg, Int.reduceEq, String.reduceEq, h5, eq_true h6, eq_true h7, eq_false h8, eq_false h42, f_o1, f_o15, (show IntKind.i64.wrap 1 = 1 from rfl)]
              obtain ⟨v123, ch124, hg⟩ := bind_some hg
              refine ACall.wkA (args := [.dl 1 (List.map (AV.int .i64) x20) tl21]) (c34 B w0 n x20 tl21 _ _ v123 ch124  ?_) (WkA.cons (wkA.refl _) WkA.nil)
              intro H125 x126
              have F30 := F30.mono x126
              have F31 := F31.mono x126
              have F32 := F32.mono x126
              have F33 := F33.mono x126
              have f_o1 := x126.2 _ _ f_o1
              have f_o15 := x126.2 _ _ f_o15
              have hE := hE.trans x126
              rcases ite_some hg with ⟨h127, hg⟩ | ⟨h127, hg⟩
              · simp only [EVA, Nat.reduceAdd, Nat.reduceMul, Nat.reduceSub, Nat.reduceLeDiff, Nat.reduceLT, Nat.reduceBEq, Nat.reduceEqDiff, reduceIte, reduceCtorEq, Int.reduceLT, Int.reduceLE, Int.reduceToNat, Int.reducePow, Nat.reducePow, Int.reduceAdd, Int.reduceSub, Int.reduceNeg, Int.reduceEq, String.reduceEq, h5, eq_true h6, eq_true h7, eq_false h8, eq_false h42, h127, f_o1, f_o15, (show IntKind.i64.wrap 1 = 1 from rfl)]
                obtain ⟨v128, ch129, hg⟩ := bind_some hg
                refine ACall.wkA (args := [.dl 1 (List.map (AV.int .i64) x22) tl23]) (c34 B w0 n x22 tl23 _ _ v128 ch129  ?_) (WkA.cons (wkA.refl _) WkA.nil)
                intro H130 x131
                have F30 := F30.mono x131
                have F31 := F31.mono x131
                have F32 := F32.mono x131
                have F33 := F33.mono x131
                have f_o1 := x131.2 _ _ f_o1
                have f_o15 := x131.2 _ _ f_o15
                have hE := hE.trans x131
                rcases ite_some hg with ⟨h132, hg⟩ | ⟨h132, hg⟩
                · simp only [EVA, Nat.reduceAdd, Nat.reduceMul, Nat.reduceSub, Nat.reduceLeDiff, Nat.reduceLT, Nat.reduceBEq, Nat.reduceEqDiff, reduceIte, reduceCtorEq, Int.reduceLT, Int.reduceLE, Int.reduceToNat, Int.reducePow, Nat.reducePow, Int.reduceAdd, Int.reduceSub, Int.reduceNeg, Int.reduceEq, String.reduceEq, h5, eq_true h6, eq_true h7, eq_false h8, eq_false h42, h127, h132, f_o1, f_o15, (show IntKind.i64.wrap 1 = 1 from rfl)]
                  obtain ⟨v133, ch134, hg⟩ := bind_some hg
                  refine ACall.wkA (args := [.dl 1 (List.map encL3 a5) ta5, .dl 1 (List.map (AV.int .u64) a4) ta4]) (c35 B w0 n a5 a4 ta5 ta4 _ _ v133 ch134  ?_) (WkA.cons (wkA.refl _) (WkA.cons (wkA.refl _) WkA.nil))
                  intro H135 x136
                  have F30 := F30.mono x136
                  have F31 := F31.mono x136
                  have F32 := F32.mono x136
                  have F33 := F33.mono x136
                  have f_o1 := x136.2 _ _ f_o1
                  have f_o15 := x136.2 _ _ f_o15
                  have hE := hE.trans x136
                  rcases ite_some hg with ⟨h137, hg⟩ | ⟨h137, hg⟩
                  · simp only [EVA, Nat.reduceAdd, Nat.reduceMul, Nat.reduceSub, Nat.reduceLeDiff, Nat.reduceLT, Nat.reduceBEq, Nat.reduceEqDiff, reduceIte, reduceCtorEq, Int.reduceLT, Int.reduceLE, Int.reduceToNat, Int.reducePow, Nat.reducePow, Int.reduceAdd, Int.reduceSub, Int.reduceNeg, Int.reduceEq, String.reduceEq, h5, eq_true h6, eq_true h7, eq_false h8, eq_false h42, h127, h132, h137, f_o1, f_o15, (show IntKind.i64.wrap 1 = 1 from rfl)]
                    refine eop_store_go (H0 := H) (id := o1) (off := 0) (v := .agg [.int .i64 0, .int .i64 0, .dl 0 [] .full, .dl 0 [] .full, .dl 0 [] .full, .dl 0 [] .full, .dl 0 [] .full]) rfl rfl f_o1 ty33 rfl rfl (Nat.le_of_ble_eq_true rfl) hE g_o1 ?_
                    intro H138 hE f9_o1 p139 l9
                    have F30 := F30.keep f_o1 p139
                    have F31 := F31.keep f_o1 p139
                    have F32 := F32.keep f_o1 p139
                    have F33 := F33.keep f_o1 p139
                    have f_o15 := p139 _ _ (Ne.symm ne_o1_o15) f_o15
                    have f_o1 : H138[o1]? = some (.cells ([.int .i64 0, .int .i64 0, .dl 0 [] .full, .dl 0 [] .full, .dl 0 [] .full, .dl 0 [] .full, .dl 0 [] .full])) := f9_o1
                    simp only [EVA, Nat.reduceAdd, Nat.reduceMul, Nat.reduceSub, Nat.reduceLeDiff, Nat.reduceLT, Nat.reduceBEq, Nat.reduceEqDiff, reduceIte, reduceCtorEq, Int.reduceLT, Int.reduceLE, Int.reduceToNat, Int.reducePow, Nat.reducePow, Int.reduceAdd, Int.reduceSub, Int.reduceNeg, Int.reduceEq, String.reduceEq, rs11, h5, eq_true h6, eq_true h7, eq_false h8, eq_false h42, h127, h132, h137, f_o1, f_o15, (show IntKind.i64.wrap 1 = 1 from rfl)]
                    obtain rfl := Option.some.inj hg
                    exact ⟨_, (wkR.tup (WkA.cons (wkA.agg (by repeat' first | exact Wk.nil | apply Wk.u | apply Wk.r | apply Wk.cons (wkV.nil _ _ _))) (WkA.cons (wkA.refl _) WkA.nil))), (hK  _ hE )⟩
                  · have h137 := Bool.eq_false_iff.2 h137
                    simp only [EVA, Nat.reduceAdd, Nat.reduceMul, Nat.reduceSub, Nat.reduceLeDiff, Nat.reduceLT, Nat.reduceBEq, Nat.reduceEqDiff, reduceIte, reduceCtorEq, Int.reduceLT, Int.reduceLE, Int.reduceToNat, Int.reducePow, Nat.reducePow, Int.reduceAdd, Int.reduceSub, Int.reduceNeg, Int.reduceEq, String.reduceEq, h5, eq_true h6, eq_true h7, eq_false h8, eq_false h42, h127, h132, h137, f_o1, f_o15, (show IntKind.i64.wrap 1 = 1 from rfl)]
                    refine eop_store_go (H0 := H) (id := o1) (off := 0) (v := .agg [.int .i64 a0, .int .i64 a1, .dl 1 (List.map (AV.int .i64) x20) tl21, .dl 1 (List.map (AV.int .i64) x22) tl23, .dl 1 (List.map (AV.int .u64) v11) .none, .dl 1 (List.map (AV.int .u64) x24) tl25, .dl 1 (List.map (AV.int .u64) x26) tl27]) rfl rfl f_o1 ty33 rfl rfl (Nat.le_of_ble_eq_true rfl) hE g_o1 ?_
                    intro H140 hE f9_o1 p141 l9
                    have F30 := F30.keep f_o1 p141
                    have F31 := F31.keep f_o1 p141
                    have F32 := F32.keep f_o1 p141
                    have F33 := F33.keep f_o1 p141
                    have f_o15 := p141 _ _ (Ne.symm ne_o1_o15) f_o15
                    have f_o1 : H140[o1]? = some (.cells ([.int .i64 a0, .int .i64 a1, .dl 1 (List.map (AV.int .i64) x20) tl21, .dl 1 (List.map (AV.int .i64) x22) tl23, .dl 1 (List.map (AV.int .u64) v11) .none, .dl 1 (List.map (AV.int .u64) x24) tl25, .dl 1 (List.map (AV.int .u64) x26) tl27])) := f9_o1
                    simp only [EVA, Nat.reduceAdd, Nat.reduceMul, Nat.reduceSub, Nat.reduceLeDiff, Nat.reduceLT, Nat.reduceBEq, Nat.reduceEqDiff, reduceIte, reduceCtorEq, Int.reduceLT, Int.reduceLE, Int.reduceToNat, Int.reducePow, Nat.reducePow, Int.reduceAdd, Int.reduceSub, Int.reduceNeg, Int.reduceEq, String.reduceEq, rs11, h5, eq_true h6, eq_true h7, eq_false h8, eq_false h42, h127, h132, h137, f_o1, f_o15, (show IntKind.i64.wrap 1 = 1 from rfl)]
                    obtain rfl := Option.some.inj hg
                    exact ⟨_, (wkR.tup (WkA.cons (wkA.agg (by repeat' first | exact Wk.nil | apply Wk.u | apply Wk.r | apply Wk.cons (wkV.tail _ _ _))) (WkA.cons (wkA.refl _) WkA.nil))), (hK  _ hE )⟩
                · have h132 := Bool.eq_false_iff.2 h132
                  simp only [EVA, Nat.reduceAdd, Nat.reduceMul, Nat.reduceSub, Nat.reduceLeDiff, Nat.reduceLT, Nat.reduceBEq, Nat.reduceEqDiff, reduceIte, reduceCtorEq, Int.reduceLT, Int.reduceLE, Int.reduceToNat, Int.reducePow, Nat.reducePow, Int.reduceAdd, Int.reduceSub, Int.reduceNeg, Int.reduceEq, String.reduceEq, h5, eq_true h6, eq_true h7, eq_false h8, eq_false h42, h127, h132, f_o1, f_o15, (show IntKind.i64.wrap 1 = 1 from rfl)]
                  refine eop_store_go (H0 := H) (id := o1) (off := 0) (v := .agg [.int .i64 0, .int .i64 0, .dl 0 [] .full, .dl 0 [] .full, .dl 0 [] .full, .dl 0 [] .full, .dl 0 [] .full]) rfl rfl f_o1 ty33 rfl rfl (Nat.le_of_ble_eq_true rfl) hE g_o1 ?_
                  intro H142 hE f9_o1 p143 l9
                  have F30 := F30.keep f_o1 p143
                  have F31 := F31.keep f_o1 p143
                  have F32 := F32.keep f_o1 p143
                  have F33 := F33.keep f_o1 p143
                  have f_o15 := p143 _ _ (Ne.symm ne_o1_o15) f_o15
                  have f_o1 : H142[o1]? = some (.cells ([.int .i64 0, .int .i64 0, .dl 0 [] .full, .dl 0 [] .full, .dl 0 [] .full, .dl 0 [] .full, .dl 0 [] .full])) := f9_o1
                  simp only [EVA, Nat.reduceAdd, Nat.reduceMul, Nat.reduceSub, Nat.reduceLeDiff, Nat.reduceLT, Nat.reduceBEq, Nat.reduceEqDiff, reduceIte, reduceCtorEq, Int.reduceLT, Int.reduceLE, Int.reduceToNat, Int.reducePow, Nat.reducePow, Int.reduceAdd, Int.reduceSub, Int.reduceNeg, Int.reduceEq, String.reduceEq, rs11, h5, eq_true h6, eq_true h7, eq_false h8, eq_false h42, h127, h132, f_o1, f_o15, (show IntKind.i64.wrap 1 = 1 from rfl)]
                  obtain rfl := Option.some.inj hg
                  exact ⟨_, (wkR.tup (WkA.cons (wkA.agg (by repeat' first | exact Wk.nil | apply Wk.u | apply Wk.r | apply Wk.cons (wkV.nil _ _ _))) (WkA.cons (wkA.refl _) WkA.nil))), (hK  _ hE )⟩
              · have h127 := Bool.eq_false_iff.2 h127
                simp only [EVA, Nat.reduceAdd, Nat.reduceMul, Nat.reduceSub, Nat.reduceLeDiff, Nat.reduceLT, Nat.reduceBEq, Nat.reduceEqDiff, reduceIte, reduceCtorEq, Int.reduceLT, Int.reduceLE, Int.reduceToNat, Int.reducePow, Nat.reducePow, Int.reduceAdd, Int.reduceSub, Int.reduceNeg, Int.reduceEq, String.reduceEq, h5, eq_true h6, eq_true h7, eq_false h8, eq_false h42, h127, f_o1, f_o15, (show IntKind.i64.wrap 1 = 1 from rfl)]
                refine eop_store_go (H0 := H) (id := o1) (off := 0) (v := .agg [.int .i64 0, .int .i64 0, .dl 0 [] .full, .dl 0 [] .full, .dl 0 [] .full, .dl 0 [] .full, .dl 0 [] .full]) rfl rfl f_o1 ty33 rfl rfl (Nat.le_of_ble_eq_true rfl) hE g_o1 ?_
                intro H144 hE f9_o1 p145 l9
                have F30 := F30.keep f_o1 p145
                have F31 := F31.keep f_o1 p145
                have F32 := F32.keep f_o1 p145
                have F33 := F33.keep f_o1 p145
                have f_o15 := p145 _ _ (Ne.symm ne_o1_o15) f_o15
                have f_o1 : H144[o1]? = some (.cells ([.int .i64 0, .int .i64 0, .dl 0 [] .full, .dl 0 [] .full, .dl 0 [] .full, .dl 0 [] .full, .dl 0 [] .full])) := f9_o1
                simp only [EVA, Nat.reduceAdd, Nat.reduceMul, Nat.reduceSub, Nat.reduceLeDiff, Nat.reduceLT, Nat.reduceBEq, Nat.reduceEqDiff, reduceIte, reduceCtorEq, Int.reduceLT, Int.reduceLE, Int.reduceToNat, Int.reducePow, Nat.reducePow, Int.reduceAdd, Int.reduceSub, Int.reduceNeg, Int.reduceEq, String.reduceEq, rs11, h5, eq_true h6, eq_true h7, eq_false h8, eq_false h42, h127, f_o1, f_o15, (show IntKind.i64.wrap 1 = 1 from rfl)]
                obtain rfl := Option.some.inj hg
                exact ⟨_, (wkR.tup (WkA.cons (wkA.agg (by repeat' first | exact Wk.nil | apply Wk.u | apply Wk.r | apply Wk.cons (wkV.nil _ _ _))) (WkA.cons (wkA.refl _) WkA.nil))), (hK  _ hE )⟩
      · refine Br.no h7 ?_
        simp only [EVA, Nat.reduceAdd, Nat.reduceMul, Nat.reduceSub, Nat.reduceLeDiff, Nat.reduceLT, Nat.reduceBEq, Nat.reduceEqDiff, reduceIte, reduceCtorEq, Int.reduceLT, Int.reduceLE, Int.reduceToNat, Int.reducePow, Nat.reducePow, Int.reduceAdd, Int.reduceSub, Int.reduceNeg, Int.reduceEq, String.reduceEq, h5, eq_true h6, eq_false h7, f_o1, (show IntKind.i64.wrap 1 = 1 from rfl)]
        refine eop_store_go (H0 := H) (id := o1) (off := 0) (v := .agg [.int .i64 0, .int .i64 0, .dl 0 [] .full, .dl 0 [] .full, .dl 0 [] .full, .dl 0 [] .full, .dl 0 [] .full]) rfl rfl f_o1 ty33 rfl rfl (Nat.le_of_ble_eq_true rfl) hE g_o1 ?_
        intro H146 hE f9_o1 p147 l9
        have f_o1 : H146[o1]? = some (.cells ([.int .i64 0, .int .i64 0, .dl 0 [] .full, .dl 0 [] .full, .dl 0 [] .full, .dl 0 [] .full, .dl 0 [] .full])) := f9_o1
        simp only [EVA, Nat.reduceAdd, Nat.reduceMul, Nat.reduceSub, Nat.reduceLeDiff, Nat.reduceLT, Nat.reduceBEq, Nat.reduceEqDiff, reduceIte, reduceCtorEq, Int.reduceLT, Int.reduceLE, Int.reduceToNat, Int.reducePow, Nat.reducePow, Int.reduceAdd, Int.reduceSub, Int.reduceNeg, Int.reduceEq, String.reduceEq, rs11, h5, eq_true h6, eq_false h7, f_o1, (show IntKind.i64.wrap 1 = 1 from rfl)]
        obtain rfl := Option.some.inj hg
        exact ⟨_, (wkR.tup (WkA.cons (wkA.agg (by repeat' first | exact Wk.nil | apply Wk.u | apply Wk.r | apply Wk.cons (wkV.nil _ _ _))) (WkA.cons (wkA.refl _) WkA.nil))), (hK  _ hE )⟩
    · refine Br.no h6 ?_
      simp only [EVA, Nat.reduceAdd, Nat.reduceMul, Nat.reduceSub, Nat.reduceLeDiff, Nat.reduceLT, Nat.reduceBEq, Nat.reduceEqDiff, reduceIte, reduceCtorEq, Int.reduceLT, Int.reduceLE, Int.reduceToNat, Int.reducePow, Nat.reducePow, Int.reduceAdd, Int.reduceSub, Int.reduceNeg, Int.reduceEq, String.reduceEq, h5, eq_false h6, f_o1, (show IntKind.i64.wrap 1 = 1 from rfl)]
      refine eop_store_go (H0 := H) (id := o1) (off := 0) (v := .agg [.int .i64 0, .int .i64 0, .dl 0 [] .full, .dl 0 [] .full, .dl 0 [] .full, .dl 0 [] .full, .dl 0 [] .full]) rfl rfl f_o1 ty33 rfl rfl (Nat.le_of_ble_eq_true rfl) hE g_o1 ?_
      intro H148 hE f9_o1 p149 l9
      have f_o1 : H148[o1]? = some (.cells ([.int .i64 0, .int .i64 0, .dl 0 [] .full, .dl 0 [] .full, .dl 0 [] .full, .dl 0 [] .full, .dl 0 [] .full])) := f9_o1
      simp only [EVA, Nat.reduceAdd, Nat.reduceMul, Nat.reduceSub, Nat.reduceLeDiff, Nat.reduceLT, Nat.reduceBEq, Nat.reduceEqDiff, reduceIte, reduceCtorEq, Int.reduceLT, Int.reduceLE, Int.reduceToNat, Int.reducePow, Nat.reducePow, Int.reduceAdd, Int.reduceSub, Int.reduceNeg, Int.reduceEq, String.reduceEq, rs11, h5, eq_false h6, f_o1, (show IntKind.i64.wrap 1 = 1 from rfl)]
      obtain rfl := Option.some.inj hg
      exact ⟨_, (wkR.tup (WkA.cons (wkA.agg (by repeat' first | exact Wk.nil | apply Wk.u | apply Wk.r | apply Wk.cons (wkV.nil _ _ _))) (WkA.cons (wkA.refl _) WkA.nil))), (hK  _ hE )⟩
  · have h5 := Bool.eq_false_iff.2 h5
    simp only [EVA, Nat.reduceAdd, Nat.reduceMul, Nat.reduceSub, Nat.reduceLeDiff, Nat.reduceLT, Nat.reduceBEq, Nat.reduceEqDiff, reduceIte, reduceCtorEq, Int.reduceLT, Int.reduceLE, Int.reduceToNat, Int.reducePow, Nat.reducePow, Int.reduceAdd, Int.reduceSub, Int.reduceNeg, Int.reduceEq, String.reduceEq, h5, f_o1, (show IntKind.i64.wrap 1 = 1 from rfl)]
    refine eop_store_go (H0 := H) (id := o1) (off := 0) (v := .agg [.int .i64 0, .int .i64 0, .dl 0 [] .full, .dl 0 [] .full, .dl 0 [] .full, .dl 0 [] .full, .dl 0 [] .full]) rfl rfl f_o1 ty33 rfl rfl (Nat.le_of_ble_eq_true rfl) hE g_o1 ?_
    intro H150 hE f9_o1 p151 l9
    have f_o1 : H150[o1]? = some (.cells ([.int .i64 0, .int .i64 0, .dl 0 [] .full, .dl 0 [] .full, .dl 0 [] .full, .dl 0 [] .full, .dl 0 [] .full])) := f9_o1
    simp only [EVA, Nat.reduceAdd, Nat.reduceMul, Nat.reduceSub, Nat.reduceLeDiff, Nat.reduceLT, Nat.reduceBEq, Nat.reduceEqDiff, reduceIte, reduceCtorEq, Int.reduceLT, Int.reduceLE, Int.reduceToNat, Int.reducePow, Nat.reducePow, Int.reduceAdd, Int.reduceSub, Int.reduceNeg, Int.reduceEq, String.reduceEq, rs11, h5, f_o1, (show IntKind.i64.wrap 1 = 1 from rfl)]
    obtain rfl := Option.some.inj hg
    exact ⟨_, (wkR.tup (WkA.cons (wkA.agg (by repeat' first | exact Wk.nil | apply Wk.u | apply Wk.r | apply Wk.cons (wkV.nil _ _ _))) (WkA.cons (wkA.refl _) WkA.nil))), (hK  _ hE )⟩
end Go.Av
end
