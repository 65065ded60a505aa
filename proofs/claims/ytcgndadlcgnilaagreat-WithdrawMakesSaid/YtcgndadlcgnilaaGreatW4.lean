/- the walks, part 4 -/
import Derived.Test.YtcgndadlcgnilaaGreatA28
import Derived.Test.YtcgndadlcgnilaaGreatW1
import Derived.Test.YtcgndadlcgnilaaGreatW3
set_option autoImplicit false
set_option linter.unusedSimpArgs false
set_option linter.unusedVariables false
section
set_option maxHeartbeats 1000000
set_option maxRecDepth 10000
namespace Go.Av
open Go.Proofs
/-- skymosaic/hash.Bytes -/
theorem rs47 : Tryz.f47.results.toList = [.tmp 4] := rfl
def g47 (n : Nat) (a0 : (List UInt8)) (a1 : List Int) : Option (Int) := (g100_0 n a1 (fun (w17 : Int) (s : List Int) => if s.length + 1 ≤ 17592186044416 then (some (true, s ++ ([IntKind.i64.wrap w17] : List Int))) else none) ([] : List Int)).bind fun v30 => if v30.length + 1 ≤ 17592186044416 then ((g45 n a0 (v30 ++ ([(a1.length : Int)] : List Int))).bind fun v41 => some v41) else none
theorem c47 (B : Nat) (w0 : World) (n : Nat) (a0 : (List UInt8)) (a1 : List Int) (ta1 : Tail) (H : AHeap) (K : AV → AHeap → Prop) (r : (Int)) (hg : g47 n a0 a1 = some r)  (hK : ∀ (H' : AHeap), Ext H H' → K (.int .u64 r) H') : ACall Tryz.prog B w0 47 [.str a0, .dl 1 (List.map (AV.int .u8) a1) ta1] H K := by
  unfold g47 at hg
  refine ACall.enter Tryz.func47 (by kernel_rfl) rfl (eawp_sound noY_sound _ _ _ _ ?_)
  have hE : Ext H H := Ext.refl H
  simp only [EVA, Nat.reduceAdd, Nat.reduceMul, Nat.reduceSub, Nat.reduceLeDiff, Nat.reduceLT, Nat.reduceBEq, Nat.reduceEqDiff, reduceIte, reduceCtorEq, Int.reduceLT, Int.reduceLE, Int.reduceToNat, Int.reducePow, Nat.reducePow, Int.reduceAdd, Int.reduceSub, Int.reduceNeg, Int.reduceEq, String.reduceEq, Tryz.ntmps47, rs47]
  refine eop_alloc_go (H0 := H) ty22 rfl rfl hE ?_
  intro o1 H2 hE xo1 g_o1 f_o1 n_o1
  have f_o1 : H2[o1]? = some (.cells ([.dl 0 [] .full])) := f_o1
  simp only [EVA, Nat.reduceAdd, Nat.reduceMul, Nat.reduceSub, Nat.reduceLeDiff, Nat.reduceLT, Nat.reduceBEq, Nat.reduceEqDiff, reduceIte, reduceCtorEq, Int.reduceLT, Int.reduceLE, Int.reduceToNat, Int.reducePow, Nat.reducePow, Int.reduceAdd, Int.reduceSub, Int.reduceNeg, Int.reduceEq, String.reduceEq, f_o1]
  refine ACall.enter Tryz.func79 (by kernel_rfl) rfl (eawp_sound noY_sound _ _ _ _ ?_)
  have rs3 : Tryz.f79.results.toList = [.tmp 2] := rfl
  simp only [EVA, Nat.reduceAdd, Nat.reduceMul, Nat.reduceSub, Nat.reduceLeDiff, Nat.reduceLT, Nat.reduceBEq, Nat.reduceEqDiff, reduceIte, reduceCtorEq, Int.reduceLT, Int.reduceLE, Int.reduceToNat, Int.reducePow, Nat.reducePow, Int.reduceAdd, Int.reduceSub, Int.reduceNeg, Int.reduceEq, String.reduceEq, Tryz.ntmps79, rs3, f_o1]
  refine eop_box_go (H0 := H) (v := .dl 1 (List.map (AV.int .u8) a1) ta1) rfl rfl hE ?_
  intro o4 H5 hE xo4 g_o4 f_o4 n_o4
  have ne_o1_o4 := n_o4 _ _ f_o1
  have f_o1 := xo4.2 _ _ f_o1
  have f_o4 : H5[o4]? = some (.cells ([.dl 1 (List.map (AV.int .u8) a1) ta1])) := f_o4
  simp only [EVA, Nat.reduceAdd, Nat.reduceMul, Nat.reduceSub, Nat.reduceLeDiff, Nat.reduceLT, Nat.reduceBEq, Nat.reduceEqDiff, reduceIte, reduceCtorEq, Int.reduceLT, Int.reduceLE, Int.reduceToNat, Int.reducePow, Nat.reducePow, Int.reduceAdd, Int.reduceSub, Int.reduceNeg, Int.reduceEq, String.reduceEq, Tryz.ntmps79, rs3, f_o1, f_o4]
  refine AWP.wkGo (H0 := H) (cs' := [.dl 1 [] .full]) f_o1 (by repeat' first | exact Wk.nil | apply Wk.u | apply Wk.r | apply Wk.cons (wkV.nilf _ _)) hE g_o1 ?_
  intro H12 hE f9_o1 p13 l9
  have f_o4 := p13 _ _ (Ne.symm ne_o1_o4) f_o4
  have f_o1 : H12[o1]? = some (.cells ([.dl 1 [] .full])) := f9_o1
  refine AWP.wkGo (H0 := H) (cs' := [.dl 1 (List.map (AV.int .u8) a1) .none]) f_o4 (by repeat' first | exact Wk.nil | apply Wk.u | apply Wk.r | apply Wk.cons (wkV.tail _ _ _)) hE g_o4 ?_
  intro H6 hE f9_o4 p7 l9
  have f_o1 := p7 _ _ ne_o1_o4 f_o1
  have f_o4 : H6[o4]? = some (.cells ([.dl 1 (List.map (AV.int .u8) a1) .none])) := f9_o4
  refine AWP.rangeGo2 (H0 := H) (fun _ h => by cases h) rfl hE ?_
  intro l8 H9 lp_l8 KE_l8 tk_l8 hr_l8 he_l8 hE xl8 f_l8 g_l8 n_l8
  have ne_o1_l8 := n_l8 _ _ f_o1
  have f_o1 := xl8.2 _ _ f_o1
  have ne_o4_l8 := n_l8 _ _ f_o4
  have f_o4 := xl8.2 _ _ f_o4
  obtain ⟨v30, ch31, hg⟩ := bind_some hg
  refine c100_0 (σ := List Int) B w0 n a1 l8 o4 (fun (w17 : Int) (s : List Int) => if s.length + 1 ≤ 17592186044416 then (some (true, s ++ ([IntKind.i64.wrap w17] : List Int))) else none) (fun s H' => ∃ tl11 : Tail, H'[l8]? = some lp_l8 ∧ Ext H H' ∧ ObjAt H' o1 ([.dl 1 (List.map (AV.int .i64) s) tl11]) ∧ ObjAt H' o4 ([.dl 1 (List.map (AV.int .u8) a1) .none]) ∧ Free H H' tl11) _ _ ([] : List Int) v30 ch31 ⟨.full, f_l8, hE, f_o1, f_o4, (Free.full _ _)⟩ (by rintro s9 H9 ⟨tl11, f_l8, hE, f9_o1, f9_o4, F14⟩; exact f9_o4) ?_ ?_
  · rintro w17 x10 H15 r K16 ⟨tl11, f_l8, hE, f9_o1, f9_o4, F14⟩ hg hK16
    try dsimp only at hg
    have f_o1 : H15[o1]? = some (.cells ([.dl 1 (List.map (AV.int .i64) x10) tl11])) := f9_o1
    clear f9_o1
    have f_o4 : H15[o4]? = some (.cells ([.dl 1 (List.map (AV.int .u8) a1) .none])) := f9_o4
    clear f9_o4
    refine hr_l8 _ _ _ ([.str a0, .dl 1 (List.map (AV.int .u8) a1) ta1, .undef, .undef, .int .u64 0, .ptr o1 0, .int .u64 w17, .dl 1 (List.map (AV.int .u8) a1) ta1, .fn (.func 100) [] [.ptr o4 0], .int .u64 w17, .undef, .undef, .undef, .undef, .undef, .undef, .undef, .undef, .undef, .undef, .undef, .undef]) f_l8 rfl (by simp only [EVA, Nat.reduceAdd, Nat.reduceMul, Nat.reduceSub, Nat.reduceLeDiff, Nat.reduceLT, Nat.reduceBEq, Nat.reduceEqDiff, reduceIte, reduceCtorEq, Int.reduceLT, Int.reduceLE, Int.reduceToNat, Int.reducePow, Nat.reducePow, Int.reduceAdd, Int.reduceSub, Int.reduceNeg, Int.reduceEq, String.reduceEq, doneQ_normal, Tryz.ntmps79, rs3, f_o1, f_o4] <;> first | exact ⟨rfl, rfl⟩ | exact rfl) hE ?_
    intro H18 lp2_l8 Qr_l8 tk2_l8 hE f9 p19 l9 hq_l8
    have F14 := F14.keepO f_l8 tk_l8 p19
    have f_o1 := p19 _ _ ne_o1_l8 f_o1
    have f_o4 := p19 _ _ ne_o4_l8 f_o4
    have f_l8 := f9
    refine eawp_sound noY_sound _ _ _ _ ?_
    simp only [EVA, Nat.reduceAdd, Nat.reduceMul, Nat.reduceSub, Nat.reduceLeDiff, Nat.reduceLT, Nat.reduceBEq, Nat.reduceEqDiff, reduceIte, reduceCtorEq, Int.reduceLT, Int.reduceLE, Int.reduceToNat, Int.reducePow, Nat.reducePow, Int.reduceAdd, Int.reduceSub, Int.reduceNeg, Int.reduceEq, String.reduceEq, Tryz.ntmps79, rs3, f_o1, f_o4]
    obtain ⟨h25, hg⟩ := guard_some hg
    refine AppE.goM (H0 := H) (AV.int .i64) x10 ([IntKind.i64.wrap w17] : List Int) (n := 17592186044416) ty22 rfl ty3 rfl rfl (by decide) (.dl 1 [.int .i64 (IntKind.i64.wrap w17)] .full) (wkD.refl _) (srcA_dl ty22 rfl) (.inl rfl) h25 (by decide) (by decide) hE F14 ?_
    intro tl20 H21 hE F22 p23 q24 l9
    have f_o1 := p23 _ _ (cnt _) f_o1
    have f_o4 := p23 _ _ (cnt _) f_o4
    have f_l8 := p23 _ _ tk2_l8 f_l8
    simp only [EVA, Nat.reduceAdd, Nat.reduceMul, Nat.reduceSub, Nat.reduceLeDiff, Nat.reduceLT, Nat.reduceBEq, Nat.reduceEqDiff, reduceIte, reduceCtorEq, Int.reduceLT, Int.reduceLE, Int.reduceToNat, Int.reducePow, Nat.reducePow, Int.reduceAdd, Int.reduceSub, Int.reduceNeg, Int.reduceEq, String.reduceEq, Tryz.ntmps79, rs3, f_o1, f_o4]
    refine eop_store_go (H0 := H) (id := o1) (off := 0) (v := .dl 1 (List.map (AV.int .i64) (x10 ++ ([IntKind.i64.wrap w17] : List Int))) tl20) rfl rfl f_o1 ty22 rfl rfl (Nat.le_of_ble_eq_true rfl) hE g_o1 ?_
    intro H26 hE f9_o1 p27 l9
    have F22 := F22.keep f_o1 p27
    have f_o4 := p27 _ _ (Ne.symm ne_o1_o4) f_o4
    have f_l8 := p27 _ _ (Ne.symm ne_o1_l8) f_l8
    have f_o1 : H26[o1]? = some (.cells ([.dl 1 (List.map (AV.int .i64) (x10 ++ ([IntKind.i64.wrap w17] : List Int))) tl20])) := f9_o1
    simp only [EVA, Nat.reduceAdd, Nat.reduceMul, Nat.reduceSub, Nat.reduceLeDiff, Nat.reduceLT, Nat.reduceBEq, Nat.reduceEqDiff, reduceIte, reduceCtorEq, Int.reduceLT, Int.reduceLE, Int.reduceToNat, Int.reducePow, Nat.reducePow, Int.reduceAdd, Int.reduceSub, Int.reduceNeg, Int.reduceEq, String.reduceEq, Tryz.ntmps79, rs3, f_o1, f_o4]
    refine hq_l8 _ _ hE f_l8 ?_
    intro H28 hE f9 p29 l9
    have F22 := F22.keepO f_l8 tk2_l8 p29
    have f_o1 := p29 _ _ ne_o1_l8 f_o1
    have f_o4 := p29 _ _ ne_o4_l8 f_o4
    have f_l8 := f9
    obtain rfl := Option.some.inj hg
    exact hK16 _ ⟨tl20, f_l8, hE, f_o1, f_o4, F22⟩
  · rintro H32 ⟨tl11, f_l8, hE, f9_o1, f9_o4, F14⟩
    have f_o1 : H32[o1]? = some (.cells ([.dl 1 (List.map (AV.int .i64) v30) tl11])) := f9_o1
    clear f9_o1
    have f_o4 : H32[o4]? = some (.cells ([.dl 1 (List.map (AV.int .u8) a1) .none])) := f9_o4
    clear f9_o4
    refine he_l8 _ _ hE f_l8 ?_
    intro H33 hE p34 l9
    have F14 := F14.keepO f_l8 tk_l8 p34
    have f_o1 := p34 _ _ ne_o1_l8 f_o1
    have f_o4 := p34 _ _ ne_o4_l8 f_o4
    simp only [EVA, Nat.reduceAdd, Nat.reduceMul, Nat.reduceSub, Nat.reduceLeDiff, Nat.reduceLT, Nat.reduceBEq, Nat.reduceEqDiff, reduceIte, reduceCtorEq, Int.reduceLT, Int.reduceLE, Int.reduceToNat, Int.reducePow, Nat.reducePow, Int.reduceAdd, Int.reduceSub, Int.reduceNeg, Int.reduceEq, String.reduceEq, Tryz.ntmps79, rs3, f_o1, f_o4]
    obtain ⟨h40, hg⟩ := guard_some hg
    refine AppE.goM (H0 := H) (AV.int .i64) v30 ([(a1.length : Int)] : List Int) (n := 17592186044416) ty22 rfl ty3 rfl rfl (by decide) (.dl 1 [.int .i64 (a1.length : Int)] .full) (wkD.refl _) (srcA_dl ty22 rfl) (.inl rfl) h40 (by decide) (by decide) hE F14 ?_
    intro tl35 H36 hE F37 p38 q39 l9
    have f_o1 := p38 _ _ (cnt _) f_o1
    have f_o4 := p38 _ _ (cnt _) f_o4
    simp only [EVA, Nat.reduceAdd, Nat.reduceMul, Nat.reduceSub, Nat.reduceLeDiff, Nat.reduceLT, Nat.reduceBEq, Nat.reduceEqDiff, reduceIte, reduceCtorEq, Int.reduceLT, Int.reduceLE, Int.reduceToNat, Int.reducePow, Nat.reducePow, Int.reduceAdd, Int.reduceSub, Int.reduceNeg, Int.reduceEq, String.reduceEq, Tryz.ntmps79, rs3, f_o1, f_o4]
    obtain ⟨v41, ch42, hg⟩ := bind_some hg
    refine ACall.wkA (args := [.str a0, .dl 1 (List.map (AV.int .i64) (v30 ++ ([(a1.length : Int)] : List Int))) tl35]) (c45 B w0 n a0 (v30 ++ ([(a1.length : Int)] : List Int)) tl35 _ _ v41 ch42  ?_) (WkA.cons (wkA.refl _) (WkA.cons (wkA.refl _) WkA.nil))
    intro H43 x44
    have F37 := F37.mono x44
    have f_o1 := x44.2 _ _ f_o1
    have f_o4 := x44.2 _ _ f_o4
    have hE := hE.trans x44
    simp only [EVA, Nat.reduceAdd, Nat.reduceMul, Nat.reduceSub, Nat.reduceLeDiff, Nat.reduceLT, Nat.reduceBEq, Nat.reduceEqDiff, reduceIte, reduceCtorEq, Int.reduceLT, Int.reduceLE, Int.reduceToNat, Int.reducePow, Nat.reducePow, Int.reduceAdd, Int.reduceSub, Int.reduceNeg, Int.reduceEq, String.reduceEq, rs47, Tryz.ntmps79, rs3, f_o1, f_o4]
    obtain rfl := Option.some.inj hg
    exact (hK  _ hE )
/-- (*skymosaic/wire.Writer).Uint -/
def l80_0 (n : Nat) : Nat → Int → List Int → Option (S5)
  | 0, _, _ => none
  | k4 + 1, x1, x2 => if 128 ≤ x1 then (if x2.length + 1 ≤ 140737488355328 then ((l80_0 n k4) (Int.fdiv x1 128) (x2 ++ ([bitsA .or .u8 (IntKind.u8.wrap x1) 128] : List Int))) else none) else (if x2.length + 1 ≤ 140737488355328 then (some (⟨x2 ++ ([IntKind.u8.wrap x1] : List Int)⟩ : S5)) else none)
theorem rs80 : Tryz.f80.results.toList = [] := rfl
def g80 (n : Nat) (a0 : S5) (a1 : Int) : Option (S5) := l80_0 n n a1 a0.c0
theorem c80 (B : Nat) (w0 : World) (n : Nat) (a0 : S5) (a1 : Int) (ta0_0 : Tail) (pa0 : Nat) (fs : List (Nat × AObj)) (ts : List Tail) (H0 H : AHeap) (K : AV → AHeap → Prop) (r : (S5)) (hg : g80 n a0 a1 = some r) (hE : Ext H0 H) (g_pa0 : H0.length ≤ pa0) (f_pa0 : H[pa0]? = some (.cells ([.dl 1 (List.map (AV.int .u8) a0.c0) ta0_0]))) (nf_pa0 : Nf fs pa0) (F_ta0_0 : Free H0 H ta0_0) (dt_ta0_0 : Dt ta0_0 ts) (hfo : FrObj H fs) (hft : FrTl H0 H ts) (hK : ∀ (qo0_0 : Tail) (H' : AHeap), Ext H0 H' → H'[pa0]? = some (.cells ([.dl 1 (List.map (AV.int .u8) r.c0) qo0_0])) → Free H0 H' qo0_0 → Dt qo0_0 ts → FrObj H' fs → FrTl H0 H' ts → K (.tup []) H') : ACall Tryz.prog B w0 80 [.ptr pa0 0, .int .u64 a1] H K := by
  refine ACall.wkE ?_
  unfold g80 at hg
  refine ACall.enter Tryz.func80 (by kernel_rfl) rfl (eawp_sound noY_sound _ _ _ _ ?_)
  simp only [EVA, Nat.reduceAdd, Nat.reduceMul, Nat.reduceSub, Nat.reduceLeDiff, Nat.reduceLT, Nat.reduceBEq, Nat.reduceEqDiff, reduceIte, reduceCtorEq, Int.reduceLT, Int.reduceLE, Int.reduceToNat, Int.reducePow, Nat.reducePow, Int.reduceAdd, Int.reduceSub, Int.reduceNeg, Int.reduceEq, String.reduceEq, Tryz.ntmps80, rs80, f_pa0]
  refine AWP.loop (σ := Nat × Int × List Int × Tail) (fun s => [.ptr pa0 0, .int .u64 s.2.1, .undef, .undef, .undef, .undef, .undef, .undef, .undef, .undef, .undef, .undef, .undef, .undef, .undef, .undef, .undef, .undef, .undef, .undef, .undef, .undef, .undef, .undef, .undef, .undef, .undef, .undef, .undef, .undef, .undef]) (fun s H' => l80_0 n s.1 s.2.1 s.2.2.1 = some r ∧ Ext H0 H' ∧ ObjW H' pa0 ([.dl 1 (List.map (AV.int .u8) s.2.2.1) s.2.2.2]) ∧ Free H0 H' s.2.2.2 ∧ FrObj H' fs ∧ FrTl H0 H' ts ∧ Dt s.2.2.2 ts) (fun s => s.1) ⟨⟨n, a1, a0.c0, ta0_0⟩, (by repeat' first | exact Wk.nil | apply Wk.u | apply Wk.r), ⟨hg, hE, ⟨_, f_pa0, (by repeat' first | exact Wk.nil | apply Wk.u | apply Wk.r)⟩, F_ta0_0, hfo, hft, dt_ta0_0⟩⟩ ?_
  rintro ⟨k4, x1, x2, tl3⟩ H5 ⟨hg, hE, f_pa0, F6, hfo, hft, dt7⟩ _
  try dsimp only at hg f_pa0 F6 dt7
  cases k4 with
  | zero => simp only [l80_0, reduceCtorEq] at hg
  | succ k4 =>
    rw [l80_0] at hg
    obtain ⟨cs_pa0, f_pa0, w_pa0⟩ := f_pa0
    refine AWP.wkGo (H0 := H0) f_pa0 w_pa0 hE g_pa0 ?_
    intro H8 hE f9_pa0 p9 l9
    have F6 := F6.keep f_pa0 p9
    have hft := hft.keep f_pa0 p9
    have hfo := hfo.keep nf_pa0 p9
    have f_pa0 : H8[pa0]? = some (.cells ([.dl 1 (List.map (AV.int .u8) x2) tl3])) := f9_pa0
    refine eawp_sound noY_sound _ _ _ _ ?_
    simp only [EVA, Nat.reduceAdd, Nat.reduceMul, Nat.reduceSub, Nat.reduceLeDiff, Nat.reduceLT, Nat.reduceBEq, Nat.reduceEqDiff, reduceIte, reduceCtorEq, Int.reduceLT, Int.reduceLE, Int.reduceToNat, Int.reducePow, Nat.reducePow, Int.reduceAdd, Int.reduceSub, Int.reduceNeg, Int.reduceEq, String.reduceEq, f_pa0]
    rcases ite_some hg with ⟨h10, hg⟩ | ⟨h10, hg⟩
    · refine Br.yes h10 ?_
      simp only [EVA, Nat.reduceAdd, Nat.reduceMul, Nat.reduceSub, Nat.reduceLeDiff, Nat.reduceLT, Nat.reduceBEq, Nat.reduceEqDiff, reduceIte, reduceCtorEq, Int.reduceLT, Int.reduceLE, Int.reduceToNat, Int.reducePow, Nat.reducePow, Int.reduceAdd, Int.reduceSub, Int.reduceNeg, Int.reduceEq, String.reduceEq, eq_true h10, f_pa0]
      obtain ⟨h16, hg⟩ := guard_some hg
      refine AppE.goM (H0 := H0) (AV.int .u8) x2 ([bitsA .or .u8 (IntKind.u8.wrap x1) 128] : List Int) (n := 140737488355328) ty67 rfl ty5 rfl rfl (by decide) (.dl 1 [.int .u8 (bitsA .or .u8 (IntKind.u8.wrap x1) 128)] .full) (wkD.refl _) (srcA_dl ty67 rfl) (.inl rfl) h16 (by decide) (by decide) hE F6 ?_
      intro tl11 H12 hE F13 p14 q15 l9
      have f_pa0 := p14 _ _ (cnt _) f_pa0
      have hfo := hfo.app p14
      obtain ⟨hft, dt17⟩ := hft.app dt7 q15
      simp only [EVA, Nat.reduceAdd, Nat.reduceMul, Nat.reduceSub, Nat.reduceLeDiff, Nat.reduceLT, Nat.reduceBEq, Nat.reduceEqDiff, reduceIte, reduceCtorEq, Int.reduceLT, Int.reduceLE, Int.reduceToNat, Int.reducePow, Nat.reducePow, Int.reduceAdd, Int.reduceSub, Int.reduceNeg, Int.reduceEq, String.reduceEq, eq_true h10, f_pa0]
      refine eop_store_go (H0 := H0) (id := pa0) (off := 0) (v := .dl 1 (List.map (AV.int .u8) (x2 ++ ([bitsA .or .u8 (IntKind.u8.wrap x1) 128] : List Int))) tl11) rfl rfl f_pa0 ty67 rfl rfl (Nat.le_of_ble_eq_true rfl) hE g_pa0 ?_
      intro H18 hE f9_pa0 p19 l9
      have F13 := F13.keep f_pa0 p19
      have hft := hft.keep f_pa0 p19
      have hfo := hfo.keep nf_pa0 p19
      have f_pa0 : H18[pa0]? = some (.cells ([.dl 1 (List.map (AV.int .u8) (x2 ++ ([bitsA .or .u8 (IntKind.u8.wrap x1) 128] : List Int))) tl11])) := f9_pa0
      simp only [EVA, Nat.reduceAdd, Nat.reduceMul, Nat.reduceSub, Nat.reduceLeDiff, Nat.reduceLT, Nat.reduceBEq, Nat.reduceEqDiff, reduceIte, reduceCtorEq, Int.reduceLT, Int.reduceLE, Int.reduceToNat, Int.reducePow, Nat.reducePow, Int.reduceAdd, Int.reduceSub, Int.reduceNeg, Int.reduceEq, String.reduceEq, eq_true h10, f_pa0]
      exact ⟨⟨k4, Int.fdiv x1 128, x2 ++ ([bitsA .or .u8 (IntKind.u8.wrap x1) 128] : List Int), tl11⟩, (by repeat' first | exact Wk.nil | apply Wk.u | apply Wk.r), ⟨hg, hE, ⟨_, f_pa0, (by repeat' first | exact Wk.nil | apply Wk.u | apply Wk.r)⟩, F13, hfo, hft, dt17⟩, Nat.lt_succ_self _⟩
    · refine Br.no h10 ?_
      simp only [EVA, Nat.reduceAdd, Nat.reduceMul, Nat.reduceSub, Nat.reduceLeDiff, Nat.reduceLT, Nat.reduceBEq, Nat.reduceEqDiff, reduceIte, reduceCtorEq, Int.reduceLT, Int.reduceLE, Int.reduceToNat, Int.reducePow, Nat.reducePow, Int.reduceAdd, Int.reduceSub, Int.reduceNeg, Int.reduceEq, String.reduceEq, eq_false h10, f_pa0]
      obtain ⟨h25, hg⟩ := guard_some hg
      refine AppE.goM (H0 := H0) (AV.int .u8) x2 ([IntKind.u8.wrap x1] : List Int) (n := 140737488355328) ty67 rfl ty5 rfl rfl (by decide) (.dl 1 [.int .u8 (IntKind.u8.wrap x1)] .full) (wkD.refl _) (srcA_dl ty67 rfl) (.inl rfl) h25 (by decide) (by decide) hE F6 ?_
      intro tl20 H21 hE F22 p23 q24 l9
      have f_pa0 := p23 _ _ (cnt _) f_pa0
      have hfo := hfo.app p23
      obtain ⟨hft, dt26⟩ := hft.app dt7 q24
      simp only [EVA, Nat.reduceAdd, Nat.reduceMul, Nat.reduceSub, Nat.reduceLeDiff, Nat.reduceLT, Nat.reduceBEq, Nat.reduceEqDiff, reduceIte, reduceCtorEq, Int.reduceLT, Int.reduceLE, Int.reduceToNat, Int.reducePow, Nat.reducePow, Int.reduceAdd, Int.reduceSub, Int.reduceNeg, Int.reduceEq, String.reduceEq, eq_false h10, f_pa0]
      refine eop_store_go (H0 := H0) (id := pa0) (off := 0) (v := .dl 1 (List.map (AV.int .u8) (x2 ++ ([IntKind.u8.wrap x1] : List Int))) tl20) rfl rfl f_pa0 ty67 rfl rfl (Nat.le_of_ble_eq_true rfl) hE g_pa0 ?_
      intro H27 hE f9_pa0 p28 l9
      have F22 := F22.keep f_pa0 p28
      have hft := hft.keep f_pa0 p28
      have hfo := hfo.keep nf_pa0 p28
      have f_pa0 : H27[pa0]? = some (.cells ([.dl 1 (List.map (AV.int .u8) (x2 ++ ([IntKind.u8.wrap x1] : List Int))) tl20])) := f9_pa0
      simp only [EVA, Nat.reduceAdd, Nat.reduceMul, Nat.reduceSub, Nat.reduceLeDiff, Nat.reduceLT, Nat.reduceBEq, Nat.reduceEqDiff, reduceIte, reduceCtorEq, Int.reduceLT, Int.reduceLE, Int.reduceToNat, Int.reducePow, Nat.reducePow, Int.reduceAdd, Int.reduceSub, Int.reduceNeg, Int.reduceEq, String.reduceEq, rs80, eq_false h10, f_pa0]
      obtain rfl := Option.some.inj hg
      obtain ⟨H29, wh9, hE, f9_pa0, p30, l9⟩ := wk_objE (cs' := [.dl 1 (List.map (AV.int .u8) (x2 ++ ([IntKind.u8.wrap x1] : List Int))) tl20]) f_pa0 (by repeat' first | exact Wk.nil | apply Wk.u | apply Wk.r) hE g_pa0
      have F22 := F22.keep f_pa0 p30
      have hft := hft.keep f_pa0 p30
      have hfo := hfo.keep nf_pa0 p30
      have f_pa0 := f9_pa0
      exact ⟨H29, wh9, (hK tl20 _ hE f_pa0 F22 dt26 hfo hft)⟩
/-- skymosaic/wire.zigzag -/
theorem rs82 : Tryz.f82.results.toList = [.tmp 2] := rfl
def g82 (n : Nat) (a0 : Int) : Option (Int) := some (bitsA .xor .u64 (IntKind.u64.wrap ((IntKind.u64.wrap a0) * 2)) (IntKind.u64.wrap (Int.fdiv a0 9223372036854775808)))
theorem c82 (B : Nat) (w0 : World) (n : Nat) (a0 : Int) (H : AHeap) (K : AV → AHeap → Prop) (r : (Int)) (hg : g82 n a0 = some r)  (hK : K (.int .u64 r) H) : ACall Tryz.prog B w0 82 [.int .i64 a0] H K := by
  unfold g82 at hg
  refine ACall.enter Tryz.func82 (by kernel_rfl) rfl (eawp_sound noY_sound _ _ _ _ ?_)
  have hE : Ext H H := Ext.refl H
  simp only [EVA, Nat.reduceAdd, Nat.reduceMul, Nat.reduceSub, Nat.reduceLeDiff, Nat.reduceLT, Nat.reduceBEq, Nat.reduceEqDiff, reduceIte, reduceCtorEq, Int.reduceLT, Int.reduceLE, Int.reduceToNat, Int.reducePow, Nat.reducePow, Int.reduceAdd, Int.reduceSub, Int.reduceNeg, Int.reduceEq, String.reduceEq, Tryz.ntmps82, rs82, rs82]
  obtain rfl := Option.some.inj hg
  exact hK
/-- (*skymosaic/wire.Writer).Int -/
theorem rs49 : Tryz.f49.results.toList = [] := rfl
def g49 (n : Nat) (a0 : S5) (a1 : Int) : Option (S5) := (g82 n a1).bind fun v1 => (g80 n (⟨a0.c0⟩ : S5) v1).bind fun v3 => some (⟨v3.c0⟩ : S5)
theorem c49 (B : Nat) (w0 : World) (n : Nat) (a0 : S5) (a1 : Int) (ta0_0 : Tail) (pa0 : Nat) (fs : List (Nat × AObj)) (ts : List Tail) (H0 H : AHeap) (K : AV → AHeap → Prop) (r : (S5)) (hg : g49 n a0 a1 = some r) (hE : Ext H0 H) (g_pa0 : H0.length ≤ pa0) (f_pa0 : H[pa0]? = some (.cells ([.dl 1 (List.map (AV.int .u8) a0.c0) ta0_0]))) (nf_pa0 : Nf fs pa0) (F_ta0_0 : Free H0 H ta0_0) (dt_ta0_0 : Dt ta0_0 ts) (hfo : FrObj H fs) (hft : FrTl H0 H ts) (hK : ∀ (qo0_0 : Tail) (H' : AHeap), Ext H0 H' → H'[pa0]? = some (.cells ([.dl 1 (List.map (AV.int .u8) r.c0) qo0_0])) → Free H0 H' qo0_0 → Dt qo0_0 ts → FrObj H' fs → FrTl H0 H' ts → K (.tup []) H') : ACall Tryz.prog B w0 49 [.ptr pa0 0, .int .i64 a1] H K := by
  refine ACall.wkE ?_
  unfold g49 at hg
  refine ACall.enter Tryz.func49 (by kernel_rfl) rfl (eawp_sound noY_sound _ _ _ _ ?_)
  simp only [EVA, Nat.reduceAdd, Nat.reduceMul, Nat.reduceSub, Nat.reduceLeDiff, Nat.reduceLT, Nat.reduceBEq, Nat.reduceEqDiff, reduceIte, reduceCtorEq, Int.reduceLT, Int.reduceLE, Int.reduceToNat, Int.reducePow, Nat.reducePow, Int.reduceAdd, Int.reduceSub, Int.reduceNeg, Int.reduceEq, String.reduceEq, Tryz.ntmps49, rs49, f_pa0]
  obtain ⟨v1, ch2, hg⟩ := bind_some hg
  refine ACall.wkA (args := [.int .i64 a1]) (c82 B w0 n a1 _ _ v1 ch2  ?_) (WkA.cons (wkA.refl _) WkA.nil)
  simp only [EVA, Nat.reduceAdd, Nat.reduceMul, Nat.reduceSub, Nat.reduceLeDiff, Nat.reduceLT, Nat.reduceBEq, Nat.reduceEqDiff, reduceIte, reduceCtorEq, Int.reduceLT, Int.reduceLE, Int.reduceToNat, Int.reducePow, Nat.reducePow, Int.reduceAdd, Int.reduceSub, Int.reduceNeg, Int.reduceEq, String.reduceEq, f_pa0]
  obtain ⟨v3, ch4, hg⟩ := bind_some hg
  refine ACall.wkA (args := [.ptr pa0 0, .int .u64 v1]) (c80 B w0 n (⟨a0.c0⟩ : S5) v1 ta0_0 pa0 (fs) (ts) H0 _ _ v3 ch4 hE g_pa0 f_pa0 nf_pa0 F_ta0_0 dt_ta0_0 hfo hft ?_) (WkA.cons (wkA.refl _) (WkA.cons (wkA.refl _) WkA.nil))
  intro tl6 H5 hE f9_pa0 F7 dt8 hfo9 hft9
  have f_pa0 : H5[pa0]? = some (.cells ([.dl 1 (List.map (AV.int .u8) v3.c0) tl6])) := f9_pa0
  have hfo := hfo9
  have hft := hft9
  simp only [EVA, Nat.reduceAdd, Nat.reduceMul, Nat.reduceSub, Nat.reduceLeDiff, Nat.reduceLT, Nat.reduceBEq, Nat.reduceEqDiff, reduceIte, reduceCtorEq, Int.reduceLT, Int.reduceLE, Int.reduceToNat, Int.reducePow, Nat.reducePow, Int.reduceAdd, Int.reduceSub, Int.reduceNeg, Int.reduceEq, String.reduceEq, rs49, f_pa0]
  obtain rfl := Option.some.inj hg
  obtain ⟨H9, wh9, hE, f9_pa0, p10, l9⟩ := wk_objE (cs' := [.dl 1 (List.map (AV.int .u8) v3.c0) tl6]) f_pa0 (by repeat' first | exact Wk.nil | apply Wk.u | apply Wk.r) hE g_pa0
  have F7 := F7.keep f_pa0 p10
  have hft := hft.keep f_pa0 p10
  have hfo := hfo.keep nf_pa0 p10
  have f_pa0 := f9_pa0
  exact ⟨H9, wh9, (hK tl6 _ hE f_pa0 F7 dt8 hfo hft)⟩
/-- (*skymosaic/wire.Writer).Done -/
theorem rs52 : Tryz.f52.results.toList = [.tmp 2] := rfl
def g52 (n : Nat) (a0 : S5) : Option (List Int) := (g57 n a0.c0).bind fun v1 => some v1
theorem c52 (B : Nat) (w0 : World) (n : Nat) (a0 : S5) (ta0_0 : Tail) (pa0 : Nat) (H : AHeap) (K : AV → AHeap → Prop) (r : (List Int)) (hg : g52 n a0 = some r) (f_pa0 : H[pa0]? = some (.cells ([.dl 1 (List.map (AV.int .u8) a0.c0) ta0_0]))) (hK : ∀ (q0 : Tail) (H' : AHeap), Ext H H' → Free H H' q0 → K (.dl 1 (List.map (AV.int .u8) r) q0) H') : ACall Tryz.prog B w0 52 [.ptr pa0 0] H K := by
  refine ACall.wkR ?_
  unfold g52 at hg
  refine ACall.enter Tryz.func52 (by kernel_rfl) rfl (eawp_sound noY_sound _ _ _ _ ?_)
  have hE : Ext H H := Ext.refl H
  simp only [EVA, Nat.reduceAdd, Nat.reduceMul, Nat.reduceSub, Nat.reduceLeDiff, Nat.reduceLT, Nat.reduceBEq, Nat.reduceEqDiff, reduceIte, reduceCtorEq, Int.reduceLT, Int.reduceLE, Int.reduceToNat, Int.reducePow, Nat.reducePow, Int.reduceAdd, Int.reduceSub, Int.reduceNeg, Int.reduceEq, String.reduceEq, Tryz.ntmps52, rs52, f_pa0]
  obtain ⟨v1, ch2, hg⟩ := bind_some hg
  refine ACall.wkA (args := [.dl 1 (List.map (AV.int .u8) a0.c0) ta0_0]) (c57 B w0 n a0.c0 ta0_0 _ _ v1 ch2  ?_) (WkA.cons (wkA.refl _) WkA.nil)
  intro tl3 H4 x5 F6
  have F6 := F6.low hE
  have f_pa0 := x5.2 _ _ f_pa0
  have hE := hE.trans x5
  simp only [EVA, Nat.reduceAdd, Nat.reduceMul, Nat.reduceSub, Nat.reduceLeDiff, Nat.reduceLT, Nat.reduceBEq, Nat.reduceEqDiff, reduceIte, reduceCtorEq, Int.reduceLT, Int.reduceLE, Int.reduceToNat, Int.reducePow, Nat.reducePow, Int.reduceAdd, Int.reduceSub, Int.reduceNeg, Int.reduceEq, String.reduceEq, rs52, f_pa0]
  obtain rfl := Option.some.inj hg
  exact ⟨_, (wkR.a (wkA.refl _)), (hK tl3 _ hE F6)⟩
/-- skymosaic/proof.put -/
def l81_0 (n : Nat) (a1 : List Int) : Nat → Int → List Int → Option (S5)
  | 0, _, _ => none
  | k10 + 1, x7, x8 => if x7 < (a1.length : Int) then (if (0 : Int) ≤ x7 ∧ x7 < (a1.length : Int) then ((g80 n (⟨x8⟩ : S5) (rd a1 x7)).bind fun v19 => (l81_0 n a1 k10) (IntKind.i64.wrap (x7 + 1)) v19.c0) else none) else (some (⟨x8⟩ : S5))
theorem rs81 : Tryz.f81.results.toList = [] := rfl
def g81 (n : Nat) (a0 : S5) (a1 : List Int) : Option (S5) := (g49 n (⟨a0.c0⟩ : S5) (a1.length : Int)).bind fun v1 => l81_0 n a1 n 0 v1.c0
theorem c81 (B : Nat) (w0 : World) (n : Nat) (a0 : S5) (a1 : List Int) (ta1 : Tail) (ta0_0 : Tail) (pa0 : Nat) (fs : List (Nat × AObj)) (ts : List Tail) (H0 H : AHeap) (K : AV → AHeap → Prop) (r : (S5)) (hg : g81 n a0 a1 = some r) (hE : Ext H0 H) (g_pa0 : H0.length ≤ pa0) (f_pa0 : H[pa0]? = some (.cells ([.dl 1 (List.map (AV.int .u8) a0.c0) ta0_0]))) (nf_pa0 : Nf fs pa0) (F_ta0_0 : Free H0 H ta0_0) (dt_ta0_0 : Dt ta0_0 ts) (hfo : FrObj H fs) (hft : FrTl H0 H ts) (hK : ∀ (qo0_0 : Tail) (H' : AHeap), Ext H0 H' → H'[pa0]? = some (.cells ([.dl 1 (List.map (AV.int .u8) r.c0) qo0_0])) → Free H0 H' qo0_0 → Dt qo0_0 ts → FrObj H' fs → FrTl H0 H' ts → K (.tup []) H') : ACall Tryz.prog B w0 81 [.ptr pa0 0, .dl 1 (List.map (AV.int .u64) a1) ta1] H K := by
  refine ACall.wkE ?_
  unfold g81 at hg
  refine ACall.enter Tryz.func81 (by kernel_rfl) rfl (eawp_sound noY_sound _ _ _ _ ?_)
  simp only [EVA, Nat.reduceAdd, Nat.reduceMul, Nat.reduceSub, Nat.reduceLeDiff, Nat.reduceLT, Nat.reduceBEq, Nat.reduceEqDiff, reduceIte, reduceCtorEq, Int.reduceLT, Int.reduceLE, Int.reduceToNat, Int.reducePow, Nat.reducePow, Int.reduceAdd, Int.reduceSub, Int.reduceNeg, Int.reduceEq, String.reduceEq, Tryz.ntmps81, rs81, f_pa0, (show IntKind.i64.wrap 1 = 1 from rfl)]
  obtain ⟨v1, ch2, hg⟩ := bind_some hg
  refine ACall.wkA (args := [.ptr pa0 0, .int .i64 (a1.length : Int)]) (c49 B w0 n (⟨a0.c0⟩ : S5) (a1.length : Int) ta0_0 pa0 (fs) (ts) H0 _ _ v1 ch2 hE g_pa0 f_pa0 nf_pa0 F_ta0_0 dt_ta0_0 hfo hft ?_) (WkA.cons (wkA.refl _) (WkA.cons (wkA.refl _) WkA.nil))
  intro tl4 H3 hE f9_pa0 F5 dt6 hfo9 hft9
  have f_pa0 : H3[pa0]? = some (.cells ([.dl 1 (List.map (AV.int .u8) v1.c0) tl4])) := f9_pa0
  have hfo := hfo9
  have hft := hft9
  simp only [EVA, Nat.reduceAdd, Nat.reduceMul, Nat.reduceSub, Nat.reduceLeDiff, Nat.reduceLT, Nat.reduceBEq, Nat.reduceEqDiff, reduceIte, reduceCtorEq, Int.reduceLT, Int.reduceLE, Int.reduceToNat, Int.reducePow, Nat.reducePow, Int.reduceAdd, Int.reduceSub, Int.reduceNeg, Int.reduceEq, String.reduceEq, f_pa0, (show IntKind.i64.wrap 1 = 1 from rfl)]
  refine AWP.loop (σ := Nat × Int × List Int × Tail) (fun s => [.ptr pa0 0, .undef, .undef, .undef, .undef, .undef, .undef, .undef, .undef, .undef, .dl 1 (List.map (AV.int .u64) a1) ta1, .int .i64 (a1.length : Int), .int .i64 s.2.1, .undef, .undef, .undef, .undef, .undef, .undef, .undef]) (fun s H' => l81_0 n a1 s.1 s.2.1 s.2.2.1 = some r ∧ Ext H0 H' ∧ ObjW H' pa0 ([.dl 1 (List.map (AV.int .u8) s.2.2.1) s.2.2.2]) ∧ Free H0 H' s.2.2.2 ∧ FrObj H' fs ∧ FrTl H0 H' ts ∧ Dt s.2.2.2 ts) (fun s => s.1) ⟨⟨n, 0, v1.c0, tl4⟩, (by repeat' first | exact Wk.nil | apply Wk.u | apply Wk.r), ⟨hg, hE, ⟨_, f_pa0, (by repeat' first | exact Wk.nil | apply Wk.u | apply Wk.r)⟩, F5, hfo, hft, dt6⟩⟩ ?_
  rintro ⟨k10, x7, x8, tl9⟩ H11 ⟨hg, hE, f_pa0, F12, hfo, hft, dt13⟩ _
  try dsimp only at hg f_pa0 F12 dt13
  cases k10 with
  | zero => simp only [l81_0, reduceCtorEq] at hg
  | succ k10 =>
    rw [l81_0] at hg
    obtain ⟨cs_pa0, f_pa0, w_pa0⟩ := f_pa0
    refine AWP.wkGo (H0 := H0) f_pa0 w_pa0 hE g_pa0 ?_
    intro H14 hE f9_pa0 p15 l9
    have F12 := F12.keep f_pa0 p15
    have hft := hft.keep f_pa0 p15
    have hfo := hfo.keep nf_pa0 p15
    have f_pa0 : H14[pa0]? = some (.cells ([.dl 1 (List.map (AV.int .u8) x8) tl9])) := f9_pa0
    refine eawp_sound noY_sound _ _ _ _ ?_
    simp only [EVA, Nat.reduceAdd, Nat.reduceMul, Nat.reduceSub, Nat.reduceLeDiff, Nat.reduceLT, Nat.reduceBEq, Nat.reduceEqDiff, reduceIte, reduceCtorEq, Int.reduceLT, Int.reduceLE, Int.reduceToNat, Int.reducePow, Nat.reducePow, Int.reduceAdd, Int.reduceSub, Int.reduceNeg, Int.reduceEq, String.reduceEq, f_pa0, (show IntKind.i64.wrap 1 = 1 from rfl)]
    rcases ite_some hg with ⟨h16, hg⟩ | ⟨h16, hg⟩
    · refine Br.yes h16 ?_
      obtain ⟨h17, hg⟩ := guard_some hg
      have q18 : List.getD (List.map (AV.int .u64) a1) (Int.toNat x7) AV.undef = (AV.int .u64) (rd a1 x7) := rd_map (l := a1) (i := x7) (AV.int .u64) h17
      simp only [EVA, Nat.reduceAdd, Nat.reduceMul, Nat.reduceSub, Nat.reduceLeDiff, Nat.reduceLT, Nat.reduceBEq, Nat.reduceEqDiff, reduceIte, reduceCtorEq, Int.reduceLT, Int.reduceLE, Int.reduceToNat, Int.reducePow, Nat.reducePow, Int.reduceAdd, Int.reduceSub, Int.reduceNeg, Int.reduceEq, String.reduceEq, eq_true h16, eq_true h17.1, eq_true h17.2, q18, f_pa0, (show IntKind.i64.wrap 1 = 1 from rfl)]
      obtain ⟨v19, ch20, hg⟩ := bind_some hg
      refine ACall.wkA (args := [.ptr pa0 0, .int .u64 (rd a1 x7)]) (c80 B w0 n (⟨x8⟩ : S5) (rd a1 x7) tl9 pa0 (fs) (ts) H0 _ _ v19 ch20 hE g_pa0 f_pa0 nf_pa0 F12 dt13 hfo hft ?_) (WkA.cons (wkA.refl _) (WkA.cons (wkA.refl _) WkA.nil))
      intro tl22 H21 hE f9_pa0 F23 dt24 hfo9 hft9
      have f_pa0 : H21[pa0]? = some (.cells ([.dl 1 (List.map (AV.int .u8) v19.c0) tl22])) := f9_pa0
      have hfo := hfo9
      have hft := hft9
      simp only [EVA, Nat.reduceAdd, Nat.reduceMul, Nat.reduceSub, Nat.reduceLeDiff, Nat.reduceLT, Nat.reduceBEq, Nat.reduceEqDiff, reduceIte, reduceCtorEq, Int.reduceLT, Int.reduceLE, Int.reduceToNat, Int.reducePow, Nat.reducePow, Int.reduceAdd, Int.reduceSub, Int.reduceNeg, Int.reduceEq, String.reduceEq, eq_true h16, eq_true h17.1, eq_true h17.2, q18, f_pa0, (show IntKind.i64.wrap 1 = 1 from rfl)]
      exact ⟨⟨k10, IntKind.i64.wrap (x7 + 1), v19.c0, tl22⟩, (by repeat' first | exact Wk.nil | apply Wk.u | apply Wk.r), ⟨hg, hE, ⟨_, f_pa0, (by repeat' first | exact Wk.nil | apply Wk.u | apply Wk.r)⟩, F23, hfo, hft, dt24⟩, Nat.lt_succ_self _⟩
    · refine Br.no h16 ?_
      simp only [EVA, Nat.reduceAdd, Nat.reduceMul, Nat.reduceSub, Nat.reduceLeDiff, Nat.reduceLT, Nat.reduceBEq, Nat.reduceEqDiff, reduceIte, reduceCtorEq, Int.reduceLT, Int.reduceLE, Int.reduceToNat, Int.reducePow, Nat.reducePow, Int.reduceAdd, Int.reduceSub, Int.reduceNeg, Int.reduceEq, String.reduceEq, rs81, eq_false h16, f_pa0, (show IntKind.i64.wrap 1 = 1 from rfl)]
      obtain rfl := Option.some.inj hg
      obtain ⟨H25, wh9, hE, f9_pa0, p26, l9⟩ := wk_objE (cs' := [.dl 1 (List.map (AV.int .u8) x8) tl9]) f_pa0 (by repeat' first | exact Wk.nil | apply Wk.u | apply Wk.r) hE g_pa0
      have F12 := F12.keep f_pa0 p26
      have hft := hft.keep f_pa0 p26
      have hfo := hfo.keep nf_pa0 p26
      have f_pa0 := f9_pa0
      exact ⟨H25, wh9, (hK tl9 _ hE f_pa0 F12 dt13 hfo hft)⟩
/-- skymosaic/proof.Encode -/
theorem rs48 : Tryz.f48.results.toList = [.tmp 2] := rfl
def g48 (n : Nat) (a0 : S1) : Option (List Int) := (g49 n (⟨([] : List Int)⟩ : S5) a0.c0).bind fun v7 => (g49 n (⟨v7.c0⟩ : S5) a0.c1).bind fun v13 => (g49 n (⟨v13.c0⟩ : S5) a0.c2).bind fun v19 => (g80 n (⟨v19.c0⟩ : S5) a0.c3).bind fun v25 => (g81 n (⟨v25.c0⟩ : S5) a0.c4).bind fun v31 => (g81 n (⟨v31.c0⟩ : S5) a0.c5).bind fun v37 => (g80 n (⟨v37.c0⟩ : S5) a0.c6).bind fun v43 => (g52 n (⟨v43.c0⟩ : S5)).bind fun v49 => some v49
theorem c48 (B : Nat) (w0 : World) (n : Nat) (a0 : S1) (H : AHeap) (K : AV → AHeap → Prop) (r : (List Int)) (hg : g48 n a0 = some r)  (hK : ∀ (q0 : Tail) (H' : AHeap), Ext H H' → Free H H' q0 → K (.dl 1 (List.map (AV.int .u8) r) q0) H') : ACall Tryz.prog B w0 48 [.agg [.int .i64 a0.c0, .int .i64 a0.c1, .int .i64 a0.c2, .int .u64 a0.c3, .dl 1 (List.map (AV.int .u64) a0.c4) .none, .dl 1 (List.map (AV.int .u64) a0.c5) .none, .int .u64 a0.c6]] H K := by
  refine ACall.wkR ?_
  unfold g48 at hg
  refine ACall.enter Tryz.func48 (by kernel_rfl) rfl (eawp_sound noY_sound _ _ _ _ ?_)
  have hE : Ext H H := Ext.refl H
  simp only [EVA, Nat.reduceAdd, Nat.reduceMul, Nat.reduceSub, Nat.reduceLeDiff, Nat.reduceLT, Nat.reduceBEq, Nat.reduceEqDiff, reduceIte, reduceCtorEq, Int.reduceLT, Int.reduceLE, Int.reduceToNat, Int.reducePow, Nat.reducePow, Int.reduceAdd, Int.reduceSub, Int.reduceNeg, Int.reduceEq, String.reduceEq, Tryz.ntmps48, rs48]
  refine eop_box_go (H0 := H) (v := .agg [.int .i64 a0.c0, .int .i64 a0.c1, .int .i64 a0.c2, .int .u64 a0.c3, .dl 1 (List.map (AV.int .u64) a0.c4) .none, .dl 1 (List.map (AV.int .u64) a0.c5) .none, .int .u64 a0.c6]) rfl rfl hE ?_
  intro o1 H2 hE xo1 g_o1 f_o1 n_o1
  have f_o1 : H2[o1]? = some (.cells ([.int .i64 a0.c0, .int .i64 a0.c1, .int .i64 a0.c2, .int .u64 a0.c3, .dl 1 (List.map (AV.int .u64) a0.c4) .none, .dl 1 (List.map (AV.int .u64) a0.c5) .none, .int .u64 a0.c6])) := f_o1
  simp only [EVA, Nat.reduceAdd, Nat.reduceMul, Nat.reduceSub, Nat.reduceLeDiff, Nat.reduceLT, Nat.reduceBEq, Nat.reduceEqDiff, reduceIte, reduceCtorEq, Int.reduceLT, Int.reduceLE, Int.reduceToNat, Int.reducePow, Nat.reducePow, Int.reduceAdd, Int.reduceSub, Int.reduceNeg, Int.reduceEq, String.reduceEq, f_o1]
  refine eop_alloc_go (H0 := H) ty102 rfl rfl hE ?_
  intro o3 H4 hE xo3 g_o3 f_o3 n_o3
  have ne_o1_o3 := n_o3 _ _ f_o1
  have f_o1 := xo3.2 _ _ f_o1
  have f_o3 : H4[o3]? = some (.cells ([.dl 0 [] .full])) := f_o3
  simp only [EVA, Nat.reduceAdd, Nat.reduceMul, Nat.reduceSub, Nat.reduceLeDiff, Nat.reduceLT, Nat.reduceBEq, Nat.reduceEqDiff, reduceIte, reduceCtorEq, Int.reduceLT, Int.reduceLE, Int.reduceToNat, Int.reducePow, Nat.reducePow, Int.reduceAdd, Int.reduceSub, Int.reduceNeg, Int.reduceEq, String.reduceEq, f_o1, f_o3]
  refine ACall.wkGo (H0 := H) (cs' := [.dl 1 [] .full]) f_o3 (by repeat' first | exact Wk.nil | apply Wk.u | apply Wk.r | apply Wk.cons (wkV.nilf _ _)) hE g_o3 ?_
  intro H5 hE f9_o3 p6 l9
  have f_o1 := p6 _ _ ne_o1_o3 f_o1
  have f_o3 : H5[o3]? = some (.cells ([.dl 1 [] .full])) := f9_o3
  obtain ⟨v7, ch8, hg⟩ := bind_some hg
  refine ACall.wkA (args := [.ptr o3 0, .int .i64 a0.c0]) (c49 B w0 n (⟨([] : List Int)⟩ : S5) a0.c0 .full o3 ((o1, .cells ([.int .i64 a0.c0, .int .i64 a0.c1, .int .i64 a0.c2, .int .u64 a0.c3, .dl 1 (List.map (AV.int .u64) a0.c4) .none, .dl 1 (List.map (AV.int .u64) a0.c5) .none, .int .u64 a0.c6])) :: []) ([]) H _ _ v7 ch8 hE g_o3 f_o3 (Nf.cons ne_o1_o3 (Nf.nil _)) (Free.full _ _) (Dt.nil _) (FrObj.cons f_o1 (cnt _) (FrObj.nil _)) (FrTl.nil _ _) ?_) (WkA.cons (wkA.refl _) (WkA.cons (wkA.refl _) WkA.nil))
  intro tl10 H9 hE f9_o3 F11 dt12 hfo9 hft9
  have f_o3 : H9[o3]? = some (.cells ([.dl 1 (List.map (AV.int .u8) v7.c0) tl10])) := f9_o3
  have f_o1 := hfo9.head
  have hfo9 := hfo9.tail
  simp only [EVA, Nat.reduceAdd, Nat.reduceMul, Nat.reduceSub, Nat.reduceLeDiff, Nat.reduceLT, Nat.reduceBEq, Nat.reduceEqDiff, reduceIte, reduceCtorEq, Int.reduceLT, Int.reduceLE, Int.reduceToNat, Int.reducePow, Nat.reducePow, Int.reduceAdd, Int.reduceSub, Int.reduceNeg, Int.reduceEq, String.reduceEq, f_o1, f_o3]
  obtain ⟨v13, ch14, hg⟩ := bind_some hg
  refine ACall.wkA (args := [.ptr o3 0, .int .i64 a0.c1]) (c49 B w0 n (⟨v7.c0⟩ : S5) a0.c1 tl10 o3 ((o1, .cells ([.int .i64 a0.c0, .int .i64 a0.c1, .int .i64 a0.c2, .int .u64 a0.c3, .dl 1 (List.map (AV.int .u64) a0.c4) .none, .dl 1 (List.map (AV.int .u64) a0.c5) .none, .int .u64 a0.c6])) :: []) ([]) H _ _ v13 ch14 hE g_o3 f_o3 (Nf.cons ne_o1_o3 (Nf.nil _)) F11 (Dt.nil _) (FrObj.cons f_o1 (cnt _) (FrObj.nil _)) (FrTl.nil _ _) ?_) (WkA.cons (wkA.refl _) (WkA.cons (wkA.refl _) WkA.nil))
  intro tl16 H15 hE f9_o3 F17 dt18 hfo9 hft9
  have f_o3 : H15[o3]? = some (.cells ([.dl 1 (List.map (AV.int .u8) v13.c0) tl16])) := f9_o3
  have f_o1 := hfo9.head
  have hfo9 := hfo9.tail
  simp only [EVA, Nat.reduceAdd, Nat.reduceMul, Nat.reduceSub, Nat.reduceLeDiff, Nat.reduceLT, Nat.reduceBEq, Nat.reduceEqDiff, reduceIte, reduceCtorEq, Int.reduceLT, Int.reduceLE, Int.reduceToNat, Int.reducePow, Nat.reducePow, Int.reduceAdd, Int.reduceSub, Int.reduceNeg, Int.reduceEq, String.reduceEq, f_o1, f_o3]
  obtain ⟨v19, ch20, hg⟩ := bind_some hg
  refine ACall.wkA (args := [.ptr o3 0, .int .i64 a0.c2]) (c49 B w0 n (⟨v13.c0⟩ : S5) a0.c2 tl16 o3 ((o1, .cells ([.int .i64 a0.c0, .int .i64 a0.c1, .int .i64 a0.c2, .int .u64 a0.c3, .dl 1 (List.map (AV.int .u64) a0.c4) .none, .dl 1 (List.map (AV.int .u64) a0.c5) .none, .int .u64 a0.c6])) :: []) ([]) H _ _ v19 ch20 hE g_o3 f_o3 (Nf.cons ne_o1_o3 (Nf.nil _)) F17 (Dt.nil _) (FrObj.cons f_o1 (cnt _) (FrObj.nil _)) (FrTl.nil _ _) ?_) (WkA.cons (wkA.refl _) (WkA.cons (wkA.refl _) WkA.nil))
  intro tl22 H21 hE f9_o3 F23 dt24 hfo9 hft9
  have f_o3 : H21[o3]? = some (.cells ([.dl 1 (List.map (AV.int .u8) v19.c0) tl22])) := f9_o3
  have f_o1 := hfo9.head
  have hfo9 := hfo9.tail
  simp only [EVA, Nat.reduceAdd, Nat.reduceMul, Nat.reduceSub, Nat.reduceLeDiff, Nat.reduceLT, Nat.reduceBEq, Nat.reduceEqDiff, reduceIte, reduceCtorEq, Int.reduceLT, Int.reduceLE, Int.reduceToNat, Int.reducePow, Nat.reducePow, Int.reduceAdd, Int.reduceSub, Int.reduceNeg, Int.reduceEq, String.reduceEq, f_o1, f_o3]
  obtain ⟨v25, ch26, hg⟩ := bind_some hg
  refine ACall.wkA (args := [.ptr o3 0, .int .u64 a0.c3]) (c80 B w0 n (⟨v19.c0⟩ : S5) a0.c3 tl22 o3 ((o1, .cells ([.int .i64 a0.c0, .int .i64 a0.c1, .int .i64 a0.c2, .int .u64 a0.c3, .dl 1 (List.map (AV.int .u64) a0.c4) .none, .dl 1 (List.map (AV.int .u64) a0.c5) .none, .int .u64 a0.c6])) :: []) ([]) H _ _ v25 ch26 hE g_o3 f_o3 (Nf.cons ne_o1_o3 (Nf.nil _)) F23 (Dt.nil _) (FrObj.cons f_o1 (cnt _) (FrObj.nil _)) (FrTl.nil _ _) ?_) (WkA.cons (wkA.refl _) (WkA.cons (wkA.refl _) WkA.nil))
  intro tl28 H27 hE f9_o3 F29 dt30 hfo9 hft9
  have f_o3 : H27[o3]? = some (.cells ([.dl 1 (List.map (AV.int .u8) v25.c0) tl28])) := f9_o3
  have f_o1 := hfo9.head
  have hfo9 := hfo9.tail
  simp only [EVA, Nat.reduceAdd, Nat.reduceMul, Nat.reduceSub, Nat.reduceLeDiff, Nat.reduceLT, Nat.reduceBEq, Nat.reduceEqDiff, reduceIte, reduceCtorEq, Int.reduceLT, Int.reduceLE, Int.reduceToNat, Int.reducePow, Nat.reducePow, Int.reduceAdd, Int.reduceSub, Int.reduceNeg, Int.reduceEq, String.reduceEq, f_o1, f_o3]
  obtain ⟨v31, ch32, hg⟩ := bind_some hg
  refine ACall.wkA (args := [.ptr o3 0, .dl 1 (List.map (AV.int .u64) a0.c4) .none]) (c81 B w0 n (⟨v25.c0⟩ : S5) a0.c4 .none tl28 o3 ((o1, .cells ([.int .i64 a0.c0, .int .i64 a0.c1, .int .i64 a0.c2, .int .u64 a0.c3, .dl 1 (List.map (AV.int .u64) a0.c4) .none, .dl 1 (List.map (AV.int .u64) a0.c5) .none, .int .u64 a0.c6])) :: []) ([]) H _ _ v31 ch32 hE g_o3 f_o3 (Nf.cons ne_o1_o3 (Nf.nil _)) F29 (Dt.nil _) (FrObj.cons f_o1 (cnt _) (FrObj.nil _)) (FrTl.nil _ _) ?_) (WkA.cons (wkA.refl _) (WkA.cons (wkA.refl _) WkA.nil))
  intro tl34 H33 hE f9_o3 F35 dt36 hfo9 hft9
  have f_o3 : H33[o3]? = some (.cells ([.dl 1 (List.map (AV.int .u8) v31.c0) tl34])) := f9_o3
  have f_o1 := hfo9.head
  have hfo9 := hfo9.tail
  simp only [EVA, Nat.reduceAdd, Nat.reduceMul, Nat.reduceSub, Nat.reduceLeDiff, Nat.reduceLT, Nat.reduceBEq, Nat.reduceEqDiff, reduceIte, reduceCtorEq, Int.reduceLT, Int.reduceLE, Int.reduceToNat, Int.reducePow, Nat.reducePow, Int.reduceAdd, Int.reduceSub, Int.reduceNeg, Int.reduceEq, String.reduceEq, f_o1, f_o3]
  obtain ⟨v37, ch38, hg⟩ := bind_some hg
  refine ACall.wkA (args := [.ptr o3 0, .dl 1 (List.map (AV.int .u64) a0.c5) .none]) (c81 B w0 n (⟨v31.c0⟩ : S5) a0.c5 .none tl34 o3 ((o1, .cells ([.int .i64 a0.c0, .int .i64 a0.c1, .int .i64 a0.c2, .int .u64 a0.c3, .dl 1 (List.map (AV.int .u64) a0.c4) .none, .dl 1 (List.map (AV.int .u64) a0.c5) .none, .int .u64 a0.c6])) :: []) ([]) H _ _ v37 ch38 hE g_o3 f_o3 (Nf.cons ne_o1_o3 (Nf.nil _)) F35 (Dt.nil _) (FrObj.cons f_o1 (cnt _) (FrObj.nil _)) (FrTl.nil _ _) ?_) (WkA.cons (wkA.refl _) (WkA.cons (wkA.refl _) WkA.nil))
  intro tl40 H39 hE f9_o3 F41 dt42 hfo9 hft9
  have f_o3 : H39[o3]? = some (.cells ([.dl 1 (List.map (AV.int .u8) v37.c0) tl40])) := f9_o3
  have f_o1 := hfo9.head
  have hfo9 := hfo9.tail
  simp only [EVA, Nat.reduceAdd, Nat.reduceMul, Nat.reduceSub, Nat.reduceLeDiff, Nat.reduceLT, Nat.reduceBEq, Nat.reduceEqDiff, reduceIte, reduceCtorEq, Int.reduceLT, Int.reduceLE, Int.reduceToNat, Int.reducePow, Nat.reducePow, Int.reduceAdd, Int.reduceSub, Int.reduceNeg, Int.reduceEq, String.reduceEq, f_o1, f_o3]
  obtain ⟨v43, ch44, hg⟩ := bind_some hg
  refine ACall.wkA (args := [.ptr o3 0, .int .u64 a0.c6]) (c80 B w0 n (⟨v37.c0⟩ : S5) a0.c6 tl40 o3 ((o1, .cells ([.int .i64 a0.c0, .int .i64 a0.c1, .int .i64 a0.c2, .int .u64 a0.c3, .dl 1 (List.map (AV.int .u64) a0.c4) .none, .dl 1 (List.map (AV.int .u64) a0.c5) .none, .int .u64 a0.c6])) :: []) ([]) H _ _ v43 ch44 hE g_o3 f_o3 (Nf.cons ne_o1_o3 (Nf.nil _)) F41 (Dt.nil _) (FrObj.cons f_o1 (cnt _) (FrObj.nil _)) (FrTl.nil _ _) ?_) (WkA.cons (wkA.refl _) (WkA.cons (wkA.refl _) WkA.nil))
  intro tl46 H45 hE f9_o3 F47 dt48 hfo9 hft9
  have f_o3 : H45[o3]? = some (.cells ([.dl 1 (List.map (AV.int .u8) v43.c0) tl46])) := f9_o3
  have f_o1 := hfo9.head
  have hfo9 := hfo9.tail
  simp only [EVA, Nat.reduceAdd, Nat.reduceMul, Nat.reduceSub, Nat.reduceLeDiff, Nat.reduceLT, Nat.reduceBEq, Nat.reduceEqDiff, reduceIte, reduceCtorEq, Int.reduceLT, Int.reduceLE, Int.reduceToNat, Int.reducePow, Nat.reducePow, Int.reduceAdd, Int.reduceSub, Int.reduceNeg, Int.reduceEq, String.reduceEq, f_o1, f_o3]
  obtain ⟨v49, ch50, hg⟩ := bind_some hg
  refine ACall.wkA (args := [.ptr o3 0]) (c52 B w0 n (⟨v43.c0⟩ : S5) tl46 o3 _ _ v49 ch50 f_o3 ?_) (WkA.cons (wkA.refl _) WkA.nil)
  intro tl51 H52 x53 F54
  have D55 := Free.ne F47 F54
  have F47 := F47.mono x53
  have F54 := F54.low hE
  have f_o1 := x53.2 _ _ f_o1
  have f_o3 := x53.2 _ _ f_o3
  have hE := hE.trans x53
  simp only [EVA, Nat.reduceAdd, Nat.reduceMul, Nat.reduceSub, Nat.reduceLeDiff, Nat.reduceLT, Nat.reduceBEq, Nat.reduceEqDiff, reduceIte, reduceCtorEq, Int.reduceLT, Int.reduceLE, Int.reduceToNat, Int.reducePow, Nat.reducePow, Int.reduceAdd, Int.reduceSub, Int.reduceNeg, Int.reduceEq, String.reduceEq, rs48, f_o1, f_o3]
  obtain rfl := Option.some.inj hg
  exact ⟨_, (wkR.a (wkA.refl _)), (hK tl51 _ hE F54)⟩
/-- skymosaic/withdraw.Sum -/
def l23_0 (n : Nat) (a0 : List S1) : Nat → Int → Int → Option (Int)
  | 0, _, _ => none
  | k7 + 1, x5, x6 => if x6 < (a0.length : Int) then (if (0 : Int) ≤ x6 ∧ x6 < (a0.length : Int) then ((g48 n (⟨(rd a0 x6).c0, (rd a0 x6).c1, (rd a0 x6).c2, (rd a0 x6).c3, (rd a0 x6).c4, (rd a0 x6).c5, (rd a0 x6).c6⟩ : S1)).bind fun v16 => (g47 n ([112, 114, 111, 111, 102]) v16).bind fun v22 => (g46 n x5 v22).bind fun v26 => (l23_0 n a0 k7) v26 (IntKind.i64.wrap (x6 + 1))) else none) else (some x5)
theorem rs23 : Tryz.f23.results.toList = [.tmp 2] := rfl
def g23 (n : Nat) (a0 : List S1) : Option (Int) := (g45 n ([112, 114, 111, 111, 102, 115]) ([(a0.length : Int)] : List Int)).bind fun v1 => l23_0 n a0 n v1 0
theorem c23 (B : Nat) (w0 : World) (n : Nat) (a0 : List S1) (ta0 : Tail) (H : AHeap) (K : AV → AHeap → Prop) (r : (Int)) (hg : g23 n a0 = some r)  (hK : ∀ (H' : AHeap), Ext H H' → K (.int .u64 r) H') : ACall Tryz.prog B w0 23 [.dl 7 (List.map encS1 a0) ta0] H K := by
  unfold g23 at hg
  refine ACall.enter Tryz.func23 (by kernel_rfl) rfl (eawp_sound noY_sound _ _ _ _ ?_)
  have hE : Ext H H := Ext.refl H
  simp only [EVA, Nat.reduceAdd, Nat.reduceMul, Nat.reduceSub, Nat.reduceLeDiff, Nat.reduceLT, Nat.reduceBEq, Nat.reduceEqDiff, reduceIte, reduceCtorEq, Int.reduceLT, Int.reduceLE, Int.reduceToNat, Int.reducePow, Nat.reducePow, Int.reduceAdd, Int.reduceSub, Int.reduceNeg, Int.reduceEq, String.reduceEq, Tryz.ntmps23, rs23, (show IntKind.i64.wrap 1 = 1 from rfl)]
  obtain ⟨v1, ch2, hg⟩ := bind_some hg
  refine ACall.wkA (args := [.str ([112, 114, 111, 111, 102, 115]), .dl 1 (List.map (AV.int .i64) ([(a0.length : Int)] : List Int)) .full]) (c45 B w0 n ([112, 114, 111, 111, 102, 115]) ([(a0.length : Int)] : List Int) .full _ _ v1 ch2  ?_) (WkA.cons (wkA.refl _) (WkA.cons (wkA.refl _) WkA.nil))
  intro H3 x4
  have hE := hE.trans x4
  simp only [EVA, Nat.reduceAdd, Nat.reduceMul, Nat.reduceSub, Nat.reduceLeDiff, Nat.reduceLT, Nat.reduceBEq, Nat.reduceEqDiff, reduceIte, reduceCtorEq, Int.reduceLT, Int.reduceLE, Int.reduceToNat, Int.reducePow, Nat.reducePow, Int.reduceAdd, Int.reduceSub, Int.reduceNeg, Int.reduceEq, String.reduceEq, (show IntKind.i64.wrap 1 = 1 from rfl)]
  refine AWP.loop (σ := Nat × Int × Int) (fun s => [.undef, .undef, .undef, .int .u64 s.2.1, .undef, .undef, .undef, .undef, .undef, .undef, .dl 7 (List.map encS1 a0) ta0, .int .i64 (a0.length : Int), .int .i64 s.2.2, .undef, .undef, .undef, .undef, .undef, .undef, .undef, .undef, .undef, .undef]) (fun s H' => l23_0 n a0 s.1 s.2.1 s.2.2 = some r ∧ Ext H H') (fun s => s.1) ⟨⟨n, v1, 0⟩, (by repeat' first | exact Wk.nil | apply Wk.u | apply Wk.r), ⟨hg, hE⟩⟩ ?_
  rintro ⟨k7, x5, x6⟩ H8 ⟨hg, hE⟩ _
  try dsimp only at hg
  cases k7 with
  | zero => simp only [l23_0, reduceCtorEq] at hg
  | succ k7 =>
    rw [l23_0] at hg
    refine eawp_sound noY_sound _ _ _ _ ?_
    simp only [EVA, Nat.reduceAdd, Nat.reduceMul, Nat.reduceSub, Nat.reduceLeDiff, Nat.reduceLT, Nat.reduceBEq, Nat.reduceEqDiff, reduceIte, reduceCtorEq, Int.reduceLT, Int.reduceLE, Int.reduceToNat, Int.reducePow, Nat.reducePow, Int.reduceAdd, Int.reduceSub, Int.reduceNeg, Int.reduceEq, String.reduceEq, (show IntKind.i64.wrap 1 = 1 from rfl)]
    rcases ite_some hg with ⟨h9, hg⟩ | ⟨h9, hg⟩
    · refine Br.yes h9 ?_
      obtain ⟨h10, hg⟩ := guard_some hg
      have q11 : List.getD (List.map encS1 a0) (Int.toNat x6) AV.undef = encS1 (rd a0 x6) := rd_map (l := a0) (i := x6) encS1 h10
      simp only [EVA, Nat.reduceAdd, Nat.reduceMul, Nat.reduceSub, Nat.reduceLeDiff, Nat.reduceLT, Nat.reduceBEq, Nat.reduceEqDiff, reduceIte, reduceCtorEq, Int.reduceLT, Int.reduceLE, Int.reduceToNat, Int.reducePow, Nat.reducePow, Int.reduceAdd, Int.reduceSub, Int.reduceNeg, Int.reduceEq, String.reduceEq, eq_true h9, eq_true h10.1, eq_true h10.2, q11, (show IntKind.i64.wrap 1 = 1 from rfl)]
      refine eop_alloc_go (H0 := H) ty64 rfl rfl hE ?_
      intro o12 H13 hE xo12 g_o12 f_o12 n_o12
      have f_o12 : H13[o12]? = some (.cells ([.int .i64 0, .int .i64 0, .int .i64 0, .int .u64 0, .dl 0 [] .full, .dl 0 [] .full, .int .u64 0])) := f_o12
      simp only [EVA, Nat.reduceAdd, Nat.reduceMul, Nat.reduceSub, Nat.reduceLeDiff, Nat.reduceLT, Nat.reduceBEq, Nat.reduceEqDiff, reduceIte, reduceCtorEq, Int.reduceLT, Int.reduceLE, Int.reduceToNat, Int.reducePow, Nat.reducePow, Int.reduceAdd, Int.reduceSub, Int.reduceNeg, Int.reduceEq, String.reduceEq, eq_true h9, eq_true h10.1, eq_true h10.2, q11, f_o12, (show IntKind.i64.wrap 1 = 1 from rfl)]
      refine eop_store_go (H0 := H) (id := o12) (off := 0) (v := .agg [.int .i64 ((rd a0 x6).c0), .int .i64 ((rd a0 x6).c1), .int .i64 ((rd a0 x6).c2), .int .u64 ((rd a0 x6).c3), .dl 1 (List.map (AV.int .u64) ((rd a0 x6).c4)) .none, .dl 1 (List.map (AV.int .u64) ((rd a0 x6).c5)) .none, .int .u64 ((rd a0 x6).c6)]) rfl rfl f_o12 ty64 rfl rfl (Nat.le_of_ble_eq_true rfl) hE g_o12 ?_
      intro H14 hE f9_o12 p15 l9
      have f_o12 : H14[o12]? = some (.cells ([.int .i64 ((rd a0 x6).c0), .int .i64 ((rd a0 x6).c1), .int .i64 ((rd a0 x6).c2), .int .u64 ((rd a0 x6).c3), .dl 1 (List.map (AV.int .u64) ((rd a0 x6).c4)) .none, .dl 1 (List.map (AV.int .u64) ((rd a0 x6).c5)) .none, .int .u64 ((rd a0 x6).c6)])) := f9_o12
      simp only [EVA, Nat.reduceAdd, Nat.reduceMul, Nat.reduceSub, Nat.reduceLeDiff, Nat.reduceLT, Nat.reduceBEq, Nat.reduceEqDiff, reduceIte, reduceCtorEq, Int.reduceLT, Int.reduceLE, Int.reduceToNat, Int.reducePow, Nat.reducePow, Int.reduceAdd, Int.reduceSub, Int.reduceNeg, Int.reduceEq, String.reduceEq, eq_true h9, eq_true h10.1, eq_true h10.2, q11, f_o12, (show IntKind.i64.wrap 1 = 1 from rfl)]
      obtain ⟨v16, ch17, hg⟩ := bind_some hg
      refine ACall.wkA (args := [.agg [.int .i64 ((rd a0 x6).c0), .int .i64 ((rd a0 x6).c1), .int .i64 ((rd a0 x6).c2), .int .u64 ((rd a0 x6).c3), .dl 1 (List.map (AV.int .u64) ((rd a0 x6).c4)) .none, .dl 1 (List.map (AV.int .u64) ((rd a0 x6).c5)) .none, .int .u64 ((rd a0 x6).c6)]]) (c48 B w0 n (⟨(rd a0 x6).c0, (rd a0 x6).c1, (rd a0 x6).c2, (rd a0 x6).c3, (rd a0 x6).c4, (rd a0 x6).c5, (rd a0 x6).c6⟩ : S1) _ _ v16 ch17  ?_) (WkA.cons (wkA.agg (by repeat' first | exact Wk.nil | apply Wk.u | apply Wk.r)) WkA.nil)
      intro tl18 H19 x20 F21
      have F21 := F21.low hE
      have f_o12 := x20.2 _ _ f_o12
      have hE := hE.trans x20
      simp only [EVA, Nat.reduceAdd, Nat.reduceMul, Nat.reduceSub, Nat.reduceLeDiff, Nat.reduceLT, Nat.reduceBEq, Nat.reduceEqDiff, reduceIte, reduceCtorEq, Int.reduceLT, Int.reduceLE, Int.reduceToNat, Int.reducePow, Nat.reducePow, Int.reduceAdd, Int.reduceSub, Int.reduceNeg, Int.reduceEq, String.reduceEq, eq_true h9, eq_true h10.1, eq_true h10.2, q11, f_o12, (show IntKind.i64.wrap 1 = 1 from rfl)]
      obtain ⟨v22, ch23, hg⟩ := bind_some hg
      refine ACall.wkA (args := [.str ([112, 114, 111, 111, 102]), .dl 1 (List.map (AV.int .u8) v16) tl18]) (c47 B w0 n ([112, 114, 111, 111, 102]) v16 tl18 _ _ v22 ch23  ?_) (WkA.cons (wkA.refl _) (WkA.cons (wkA.refl _) WkA.nil))
      intro H24 x25
      have F21 := F21.mono x25
      have f_o12 := x25.2 _ _ f_o12
      have hE := hE.trans x25
      simp only [EVA, Nat.reduceAdd, Nat.reduceMul, Nat.reduceSub, Nat.reduceLeDiff, Nat.reduceLT, Nat.reduceBEq, Nat.reduceEqDiff, reduceIte, reduceCtorEq, Int.reduceLT, Int.reduceLE, Int.reduceToNat, Int.reducePow, Nat.reducePow, Int.reduceAdd, Int.reduceSub, Int.reduceNeg, Int.reduceEq, String.reduceEq, eq_true h9, eq_true h10.1, eq_true h10.2, q11, f_o12, (show IntKind.i64.wrap 1 = 1 from rfl)]
      obtain ⟨v26, ch27, hg⟩ := bind_some hg
      refine ACall.wkA (args := [.int .u64 x5, .int .u64 v22]) (c46 B w0 n x5 v22 _ _ v26 ch27  ?_) (WkA.cons (wkA.refl _) (WkA.cons (wkA.refl _) WkA.nil))
      intro H28 x29
      have F21 := F21.mono x29
      have f_o12 := x29.2 _ _ f_o12
      have hE := hE.trans x29
      simp only [EVA, Nat.reduceAdd, Nat.reduceMul, Nat.reduceSub, Nat.reduceLeDiff, Nat.reduceLT, Nat.reduceBEq, Nat.reduceEqDiff, reduceIte, reduceCtorEq, Int.reduceLT, Int.reduceLE, Int.reduceToNat, Int.reducePow, Nat.reducePow, Int.reduceAdd, Int.reduceSub, Int.reduceNeg, Int.reduceEq, String.reduceEq, eq_true h9, eq_true h10.1, eq_true h10.2, q11, f_o12, (show IntKind.i64.wrap 1 = 1 from rfl)]
      exact ⟨⟨k7, v26, IntKind.i64.wrap (x6 + 1)⟩, (by repeat' first | exact Wk.nil | apply Wk.u | apply Wk.r), ⟨hg, hE⟩, Nat.lt_succ_self _⟩
    · refine Br.no h9 ?_
      simp only [EVA, Nat.reduceAdd, Nat.reduceMul, Nat.reduceSub, Nat.reduceLeDiff, Nat.reduceLT, Nat.reduceBEq, Nat.reduceEqDiff, reduceIte, reduceCtorEq, Int.reduceLT, Int.reduceLE, Int.reduceToNat, Int.reducePow, Nat.reducePow, Int.reduceAdd, Int.reduceSub, Int.reduceNeg, Int.reduceEq, String.reduceEq, rs23, eq_false h9, (show IntKind.i64.wrap 1 = 1 from rfl)]
      obtain rfl := Option.some.inj hg
      exact (hK  _ hE )
/-- skymosaic/withdraw.stated -/
theorem rs32 : Tryz.f32.results.toList = [.tmp 4] := rfl
def g32 (n : Nat) (a0 : Int) (a1 : Int) : Option (Bool) := if 0 ≤ a0 then (if a0 < 4096 then (if 0 ≤ a1 then (some (decide (a1 ≤ 1099511627776))) else (some false)) else (some false)) else (some false)
theorem c32 (B : Nat) (w0 : World) (n : Nat) (a0 : Int) (a1 : Int) (H : AHeap) (K : AV → AHeap → Prop) (r : (Bool)) (hg : g32 n a0 a1 = some r)  (hK : K (.bool r) H) : ACall Tryz.prog B w0 32 [.int .i64 a0, .int .i64 a1] H K := by
  unfold g32 at hg
  refine ACall.enter Tryz.func32 (by kernel_rfl) rfl (eawp_sound noY_sound _ _ _ _ ?_)
  have hE : Ext H H := Ext.refl H
  simp only [EVA, Nat.reduceAdd, Nat.reduceMul, Nat.reduceSub, Nat.reduceLeDiff, Nat.reduceLT, Nat.reduceBEq, Nat.reduceEqDiff, reduceIte, reduceCtorEq, Int.reduceLT, Int.reduceLE, Int.reduceToNat, Int.reducePow, Nat.reducePow, Int.reduceAdd, Int.reduceSub, Int.reduceNeg, Int.reduceEq, String.reduceEq, Tryz.ntmps32, rs32]
  rcases ite_some hg with ⟨h1, hg⟩ | ⟨h1, hg⟩
  · refine Br.yes h1 ?_
    simp only [EVA, Nat.reduceAdd, Nat.reduceMul, Nat.reduceSub, Nat.reduceLeDiff, Nat.reduceLT, Nat.reduceBEq, Nat.reduceEqDiff, reduceIte, reduceCtorEq, Int.reduceLT, Int.reduceLE, Int.reduceToNat, Int.reducePow, Nat.reducePow, Int.reduceAdd, Int.reduceSub, Int.reduceNeg, Int.reduceEq, String.reduceEq, eq_true h1]
    rcases ite_some hg with ⟨h2, hg⟩ | ⟨h2, hg⟩
    · refine Br.yes h2 ?_
      simp only [EVA, Nat.reduceAdd, Nat.reduceMul, Nat.reduceSub, Nat.reduceLeDiff, Nat.reduceLT, Nat.reduceBEq, Nat.reduceEqDiff, reduceIte, reduceCtorEq, Int.reduceLT, Int.reduceLE, Int.reduceToNat, Int.reducePow, Nat.reducePow, Int.reduceAdd, Int.reduceSub, Int.reduceNeg, Int.reduceEq, String.reduceEq, eq_true h1, eq_true h2]
      rcases ite_some hg with ⟨h3, hg⟩ | ⟨h3, hg⟩
      · refine Br.yes h3 ?_
        simp only [EVA, Nat.reduceAdd, Nat.reduceMul, Nat.reduceSub, Nat.reduceLeDiff, Nat.reduceLT, Nat.reduceBEq, Nat.reduceEqDiff, reduceIte, reduceCtorEq, Int.reduceLT, Int.reduceLE, Int.reduceToNat, Int.reducePow, Nat.reducePow, Int.reduceAdd, Int.reduceSub, Int.reduceNeg, Int.reduceEq, String.reduceEq, rs32, eq_true h1, eq_true h2, eq_true h3]
        obtain rfl := Option.some.inj hg
        exact hK
      · refine Br.no h3 ?_
        simp only [EVA, Nat.reduceAdd, Nat.reduceMul, Nat.reduceSub, Nat.reduceLeDiff, Nat.reduceLT, Nat.reduceBEq, Nat.reduceEqDiff, reduceIte, reduceCtorEq, Int.reduceLT, Int.reduceLE, Int.reduceToNat, Int.reducePow, Nat.reducePow, Int.reduceAdd, Int.reduceSub, Int.reduceNeg, Int.reduceEq, String.reduceEq, rs32, eq_true h1, eq_true h2, eq_false h3]
        obtain rfl := Option.some.inj hg
        exact hK
    · refine Br.no h2 ?_
      simp only [EVA, Nat.reduceAdd, Nat.reduceMul, Nat.reduceSub, Nat.reduceLeDiff, Nat.reduceLT, Nat.reduceBEq, Nat.reduceEqDiff, reduceIte, reduceCtorEq, Int.reduceLT, Int.reduceLE, Int.reduceToNat, Int.reducePow, Nat.reducePow, Int.reduceAdd, Int.reduceSub, Int.reduceNeg, Int.reduceEq, String.reduceEq, rs32, eq_true h1, eq_false h2]
      obtain rfl := Option.some.inj hg
      exact hK
  · refine Br.no h1 ?_
    simp only [EVA, Nat.reduceAdd, Nat.reduceMul, Nat.reduceSub, Nat.reduceLeDiff, Nat.reduceLT, Nat.reduceBEq, Nat.reduceEqDiff, reduceIte, reduceCtorEq, Int.reduceLT, Int.reduceLE, Int.reduceToNat, Int.reducePow, Nat.reducePow, Int.reduceAdd, Int.reduceSub, Int.reduceNeg, Int.reduceEq, String.reduceEq, rs32, eq_false h1]
    obtain rfl := Option.some.inj hg
    exact hK
/-- cmp.isNaN[uint64] -/
theorem rs119 : Tryz.f119.results.toList = [.tmp 2] := rfl
def g119 (n : Nat) (a0 : Int) : Option (Bool) := some false
theorem c119 (B : Nat) (w0 : World) (n : Nat) (a0 : Int) (H : AHeap) (K : AV → AHeap → Prop) (r : (Bool)) (hg : g119 n a0 = some r)  (hK : K (.bool r) H) : ACall Tryz.prog B w0 119 [.int .u64 a0] H K := by
  unfold g119 at hg
  refine ACall.enter Tryz.func119 (by kernel_rfl) rfl (eawp_sound noY_sound _ _ _ _ ?_)
  have hE : Ext H H := Ext.refl H
  simp only [EVA, Nat.reduceAdd, Nat.reduceMul, Nat.reduceSub, Nat.reduceLeDiff, Nat.reduceLT, Nat.reduceBEq, Nat.reduceEqDiff, reduceIte, reduceCtorEq, Int.reduceLT, Int.reduceLE, Int.reduceToNat, Int.reducePow, Nat.reducePow, Int.reduceAdd, Int.reduceSub, Int.reduceNeg, Int.reduceEq, String.reduceEq, Tryz.ntmps119, rs119, rs119]
  obtain rfl := Option.some.inj hg
  exact hK
/-- cmp.Less[uint64] -/
theorem rs107 : Tryz.f107.results.toList = [.tmp 4] := rfl
def g107 (n : Nat) (a0 : Int) (a1 : Int) : Option (Bool) := (g119 n a0).bind fun v1 => if v1 = true then ((g119 n a1).bind fun v4 => if v4 = true then (some (decide (a0 < a1))) else (some true)) else (some (decide (a0 < a1)))
theorem c107 (B : Nat) (w0 : World) (n : Nat) (a0 : Int) (a1 : Int) (H : AHeap) (K : AV → AHeap → Prop) (r : (Bool)) (hg : g107 n a0 a1 = some r)  (hK : K (.bool r) H) : ACall Tryz.prog B w0 107 [.int .u64 a0, .int .u64 a1] H K := by
  unfold g107 at hg
  refine ACall.enter Tryz.func107 (by kernel_rfl) rfl (eawp_sound noY_sound _ _ _ _ ?_)
  have hE : Ext H H := Ext.refl H
  simp only [EVA, Nat.reduceAdd, Nat.reduceMul, Nat.reduceSub, Nat.reduceLeDiff, Nat.reduceLT, Nat.reduceBEq, Nat.reduceEqDiff, reduceIte, reduceCtorEq, Int.reduceLT, Int.reduceLE, Int.reduceToNat, Int.reducePow, Nat.reducePow, Int.reduceAdd, Int.reduceSub, Int.reduceNeg, Int.reduceEq, String.reduceEq, Tryz.ntmps107, rs107]
  obtain ⟨v1, ch2, hg⟩ := bind_some hg
  refine ACall.wkA (args := [.int .u64 a0]) (c119 B w0 n a0 _ _ v1 ch2  ?_) (WkA.cons (wkA.refl _) WkA.nil)
  rcases ite_some hg with ⟨h3, hg⟩ | ⟨h3, hg⟩
  · simp only [EVA, Nat.reduceAdd, Nat.reduceMul, Nat.reduceSub, Nat.reduceLeDiff, Nat.reduceLT, Nat.reduceBEq, Nat.reduceEqDiff, reduceIte, reduceCtorEq, Int.reduceLT, Int.reduceLE, Int.reduceToNat, Int.reducePow, Nat.reducePow, Int.reduceAdd, Int.reduceSub, Int.reduceNeg, Int.reduceEq, String.reduceEq, h3]
    obtain ⟨v4, ch5, hg⟩ := bind_some hg
    refine ACall.wkA (args := [.int .u64 a1]) (c119 B w0 n a1 _ _ v4 ch5  ?_) (WkA.cons (wkA.refl _) WkA.nil)
    rcases ite_some hg with ⟨h6, hg⟩ | ⟨h6, hg⟩
    · simp only [EVA, Nat.reduceAdd, Nat.reduceMul, Nat.reduceSub, Nat.reduceLeDiff, Nat.reduceLT, Nat.reduceBEq, Nat.reduceEqDiff, reduceIte, reduceCtorEq, Int.reduceLT, Int.reduceLE, Int.reduceToNat, Int.reducePow, Nat.reducePow, Int.reduceAdd, Int.reduceSub, Int.reduceNeg, Int.reduceEq, String.reduceEq, rs107, h3, h6]
      obtain rfl := Option.some.inj hg
      exact hK
    · have h6 := Bool.eq_false_iff.2 h6
      simp only [EVA, Nat.reduceAdd, Nat.reduceMul, Nat.reduceSub, Nat.reduceLeDiff, Nat.reduceLT, Nat.reduceBEq, Nat.reduceEqDiff, reduceIte, reduceCtorEq, Int.reduceLT, Int.reduceLE, Int.reduceToNat, Int.reducePow, Nat.reducePow, Int.reduceAdd, Int.reduceSub, Int.reduceNeg, Int.reduceEq, String.reduceEq, rs107, h3, h6]
      obtain rfl := Option.some.inj hg
      exact hK
  · have h3 := Bool.eq_false_iff.2 h3
    simp only [EVA, Nat.reduceAdd, Nat.reduceMul, Nat.reduceSub, Nat.reduceLeDiff, Nat.reduceLT, Nat.reduceBEq, Nat.reduceEqDiff, reduceIte, reduceCtorEq, Int.reduceLT, Int.reduceLE, Int.reduceToNat, Int.reducePow, Nat.reducePow, Int.reduceAdd, Int.reduceSub, Int.reduceNeg, Int.reduceEq, String.reduceEq, rs107, h3]
    obtain rfl := Option.some.inj hg
    exact hK
/-- slices.insertionSortOrdered[uint64] -/
def l101_1 (n : Nat) (l101_0_REC : Int → List Int → Option (List Int)) (za0 : Nat) (a1 : Int) (x1 : Int) : Nat → Int → List Int → Option (List Int)
  | 0, _, _ => none
  | k8 + 1, x6, x7 => if a1 < x6 then (if (0 : Int) ≤ x6 ∧ x6 < ((za0 : Nat) : Int) then (if (Int.toNat x6) < x7.length then (if (0 : Int) ≤ (IntKind.i64.wrap (x6 - 1)) ∧ (IntKind.i64.wrap (x6 - 1)) < ((za0 : Nat) : Int) then (if (Int.toNat (IntKind.i64.wrap (x6 - 1))) < x7.length then ((g107 n (rdn x7 (Int.toNat x6)) (rdn x7 (Int.toNat (IntKind.i64.wrap (x6 - 1))))).bind fun v17 => if v17 = true then (if (0 : Int) ≤ (IntKind.i64.wrap (x6 - 1)) ∧ (IntKind.i64.wrap (x6 - 1)) < ((za0 : Nat) : Int) then (if (Int.toNat (IntKind.i64.wrap (x6 - 1))) < x7.length then (if (0 : Int) ≤ x6 ∧ x6 < ((za0 : Nat) : Int) then (if (Int.toNat x6) < x7.length then (if (0 : Int) ≤ x6 ∧ x6 < ((za0 : Nat) : Int) then (if (Int.toNat x6) < x7.length then (if (0 : Int) ≤ (IntKind.i64.wrap (x6 - 1)) ∧ (IntKind.i64.wrap (x6 - 1)) < ((za0 : Nat) : Int) then (if (Int.toNat (IntKind.i64.wrap (x6 - 1))) < (List.set x7 (Int.toNat x6) (rdn x7 (Int.toNat (IntKind.i64.wrap (x6 - 1))))).length then ((l101_1 n l101_0_REC za0 a1 x1 k8) (IntKind.i64.wrap (x6 - 1)) (List.set (List.set x7 (Int.toNat x6) (rdn x7 (Int.toNat (IntKind.i64.wrap (x6 - 1))))) (Int.toNat (IntKind.i64.wrap (x6 - 1))) (rdn x7 (Int.toNat x6)))) else none) else none) else none) else none) else none) else none) else none) else none) else (l101_0_REC (IntKind.i64.wrap (x1 + 1)) x7)) else none) else none) else none) else none) else (l101_0_REC (IntKind.i64.wrap (x1 + 1)) x7)
def l101_0 (n : Nat) (za0 : Nat) (a1 : Int) (a2 : Int) : Nat → Int → List Int → Option (List Int)
  | 0, _, _ => none
  | k3 + 1, x1, x2 => if x1 < a2 then (l101_1 n (l101_0 n za0 a1 a2 k3) za0 a1 x1 n x1 x2) else (some x2)
theorem rs101 : Tryz.f101.results.toList = [] := rfl
def g101 (n : Nat) (a0 : List Int) (za0 : Nat) (a1 : Int) (a2 : Int) : Option (List Int) := l101_0 n za0 a1 a2 n (IntKind.i64.wrap (a1 + 1)) a0
theorem c101 (B : Nat) (w0 : World) (n : Nat) (a0 : List Int) (za0 : Nat) (a1 : Int) (a2 : Int) (pa0 : Nat) (fs : List (Nat × AObj)) (ts : List Tail) (H0 H : AHeap) (K : AV → AHeap → Prop) (r : (List Int)) (hg : g101 n a0 za0 a1 a2 = some r) (hE : Ext H0 H) (g_pa0 : H0.length ≤ pa0) (f_pa0 : H[pa0]? = some (.cells (List.map (AV.int .u64) a0))) (nf_pa0 : Nf fs pa0) (hfo : FrObj H fs) (hft : FrTl H0 H ts) (hK : ∀ (H' : AHeap), Ext H0 H' → H'[pa0]? = some (.cells (List.map (AV.int .u64) r)) → FrObj H' fs → FrTl H0 H' ts → K (.tup []) H') : ACall Tryz.prog B w0 101 [.sl 1 pa0 0 za0, .int .i64 a1, .int .i64 a2] H K := by
  unfold g101 at hg
  refine ACall.enter Tryz.func101 (by kernel_rfl) rfl (eawp_sound noY_sound _ _ _ _ ?_)
  simp only [EVA, Nat.reduceAdd, Nat.reduceMul, Nat.reduceSub, Nat.reduceLeDiff, Nat.reduceLT, Nat.reduceBEq, Nat.reduceEqDiff, reduceIte, reduceCtorEq, Int.reduceLT, Int.reduceLE, Int.reduceToNat, Int.reducePow, Nat.reducePow, Int.reduceAdd, Int.reduceSub, Int.reduceNeg, Int.reduceEq, String.reduceEq, Tryz.ntmps101, rs101, f_pa0]
  refine AWP.loop (σ := Nat × Int × List Int) (fun s => [.sl 1 pa0 0 za0, .int .i64 a1, .int .i64 a2, .undef, .undef, .undef, .int .i64 s.2.1, .undef, .undef, .undef, .undef, .undef, .undef, .undef, .undef, .undef, .undef, .undef, .undef, .undef, .undef, .undef, .undef, .undef, .undef, .undef, .undef, .undef, .undef, .undef, .undef, .undef, .undef, .undef, .undef, .undef, .undef, .undef, .undef, .undef, .undef, .undef, .undef, .undef, .undef, .undef, .undef, .undef, .undef]) (fun s H' => l101_0 n za0 a1 a2 s.1 s.2.1 s.2.2 = some r ∧ Ext H0 H' ∧ ObjAt H' pa0 (List.map (AV.int .u64) s.2.2) ∧ FrObj H' fs ∧ FrTl H0 H' ts) (fun s => s.1) ⟨⟨n, IntKind.i64.wrap (a1 + 1), a0⟩, (by repeat' first | exact Wk.nil | apply Wk.u | apply Wk.r), ⟨hg, hE, f_pa0, hfo, hft⟩⟩ ?_
  rintro ⟨k3, x1, x2⟩ H4 ⟨hg, hE, f9_pa0, hfo, hft⟩ _
  have f_pa0 : H4[pa0]? = some (.cells (List.map (AV.int .u64) x2)) := f9_pa0
  clear f9_pa0
  try dsimp only at hg
  cases k3 with
  | zero => simp only [l101_0, reduceCtorEq] at hg
  | succ k3 =>
    rw [l101_0] at hg
    refine eawp_sound noY_sound _ _ _ _ ?_
    simp only [EVA, Nat.reduceAdd, Nat.reduceMul, Nat.reduceSub, Nat.reduceLeDiff, Nat.reduceLT, Nat.reduceBEq, Nat.reduceEqDiff, reduceIte, reduceCtorEq, Int.reduceLT, Int.reduceLE, Int.reduceToNat, Int.reducePow, Nat.reducePow, Int.reduceAdd, Int.reduceSub, Int.reduceNeg, Int.reduceEq, String.reduceEq, f_pa0]
    rcases ite_some hg with ⟨h5, hg⟩ | ⟨h5, hg⟩
    · refine Br.yes h5 ?_
      simp only [EVA, Nat.reduceAdd, Nat.reduceMul, Nat.reduceSub, Nat.reduceLeDiff, Nat.reduceLT, Nat.reduceBEq, Nat.reduceEqDiff, reduceIte, reduceCtorEq, Int.reduceLT, Int.reduceLE, Int.reduceToNat, Int.reducePow, Nat.reducePow, Int.reduceAdd, Int.reduceSub, Int.reduceNeg, Int.reduceEq, String.reduceEq, eq_true h5, f_pa0]
      refine AWP.loop (σ := Nat × Int × List Int) (fun s => [.sl 1 pa0 0 za0, .int .i64 a1, .int .i64 a2, .undef, .undef, .undef, .int .i64 x1, .int .i64 s.2.1, .undef, .undef, .undef, .undef, .undef, .undef, .undef, .undef, .undef, .undef, .undef, .undef, .undef, .undef, .undef, .undef, .undef, .undef, .undef, .undef, .undef, .undef, .undef, .undef, .undef, .undef, .undef, .undef, .undef, .undef, .undef, .undef, .undef, .undef, .undef, .undef, .undef, .undef, .undef, .undef, .undef]) (fun s H' => l101_1 n (l101_0 n za0 a1 a2 k3) za0 a1 x1 s.1 s.2.1 s.2.2 = some r ∧ Ext H0 H' ∧ ObjAt H' pa0 (List.map (AV.int .u64) s.2.2) ∧ FrObj H' fs ∧ FrTl H0 H' ts) (fun s => s.1) ⟨⟨n, x1, x2⟩, (by repeat' first | exact Wk.nil | apply Wk.u | apply Wk.r), ⟨hg, hE, f_pa0, hfo, hft⟩⟩ ?_
      rintro ⟨k8, x6, x7⟩ H9 ⟨hg, hE, f9_pa0, hfo, hft⟩ _
      have f_pa0 : H9[pa0]? = some (.cells (List.map (AV.int .u64) x7)) := f9_pa0
      clear f9_pa0
      try dsimp only at hg
      cases k8 with
      | zero => simp only [l101_1, reduceCtorEq] at hg
      | succ k8 =>
        rw [l101_1] at hg
        refine eawp_sound noY_sound _ _ _ _ ?_
        simp only [EVA, Nat.reduceAdd, Nat.reduceMul, Nat.reduceSub, Nat.reduceLeDiff, Nat.reduceLT, Nat.reduceBEq, Nat.reduceEqDiff, reduceIte, reduceCtorEq, Int.reduceLT, Int.reduceLE, Int.reduceToNat, Int.reducePow, Nat.reducePow, Int.reduceAdd, Int.reduceSub, Int.reduceNeg, Int.reduceEq, String.reduceEq, eq_true h5, f_pa0]
        refine AWP.draw noY_sound [[], [], [0, 1], [0, 1, 2], [0, 1, 2, 3], [0, 1, 2, 3], [0, 1, 2, 3, 4, 5], [0, 1, 2, 3, 4, 5, 6], [0, 1, 2, 3], [0, 1, 2, 3], [0, 1, 2, 3, 9], [0, 1, 2, 3, 8, 9, 10], [0, 1, 2, 3, 8, 9, 10, 11], [0, 1, 2, 3, 4, 5, 6, 7, 8, 9, 10, 11, 12], [0, 1, 2, 3, 4, 5, 6, 7, 8, 9, 10, 11, 12, 13]] [⟨0, false, []⟩, ⟨1, false, []⟩, ⟨2, false, []⟩, ⟨3, false, []⟩, ⟨4, false, []⟩, ⟨5, false, []⟩, ⟨6, false, []⟩, ⟨7, false, []⟩, ⟨8, false, []⟩, ⟨9, false, []⟩, ⟨10, false, []⟩, ⟨11, false, []⟩, ⟨12, false, []⟩, ⟨13, true, []⟩, ⟨14, false, []⟩] [0, 1, 2, 3, 4, 5, 6, 7, 8, 9, 10, 11, 12, 13, 14] [0, 1, 2, 3, 4, 5, 6, 7, 8, 9, 10, 11, 12, 13, 14] (by kernel_rfl) ?_
        simp only [EVA, Nat.reduceAdd, Nat.reduceMul, Nat.reduceSub, Nat.reduceLeDiff, Nat.reduceLT, Nat.reduceBEq, Nat.reduceEqDiff, reduceIte, reduceCtorEq, Int.reduceLT, Int.reduceLE, Int.reduceToNat, Int.reducePow, Nat.reducePow, Int.reduceAdd, Int.reduceSub, Int.reduceNeg, Int.reduceEq, String.reduceEq, eq_true h5, f_pa0]
        rcases ite_some hg with ⟨h10, hg⟩ | ⟨h10, hg⟩
        · refine Br.yes h10 ?_
          obtain ⟨h11, hg⟩ := guard_some hg
          obtain ⟨h12, hg⟩ := guard_some hg
          have q13 := rdn_map (AV.int .u64) h12
          obtain ⟨h14, hg⟩ := guard_some hg
          obtain ⟨h15, hg⟩ := guard_some hg
          have q16 := rdn_map (AV.int .u64) h15
          simp only [EVA, Nat.reduceAdd, Nat.reduceMul, Nat.reduceSub, Nat.reduceLeDiff, Nat.reduceLT, Nat.reduceBEq, Nat.reduceEqDiff, reduceIte, reduceCtorEq, Int.reduceLT, Int.reduceLE, Int.reduceToNat, Int.reducePow, Nat.reducePow, Int.reduceAdd, Int.reduceSub, Int.reduceNeg, Int.reduceEq, String.reduceEq, eq_true h5, eq_true h10, eq_true h11.1, eq_true h11.2, q13, eq_true h14.1, eq_true h14.2, q16, f_pa0]
          obtain ⟨v17, ch18, hg⟩ := bind_some hg
          refine ACall.wkA (args := [.int .u64 (rdn x7 (Int.toNat x6)), .int .u64 (rdn x7 (Int.toNat (IntKind.i64.wrap (x6 - 1))))]) (c107 B w0 n (rdn x7 (Int.toNat x6)) (rdn x7 (Int.toNat (IntKind.i64.wrap (x6 - 1)))) _ _ v17 ch18  ?_) (WkA.cons (wkA.refl _) (WkA.cons (wkA.refl _) WkA.nil))
          rcases ite_some hg with ⟨h19, hg⟩ | ⟨h19, hg⟩
          · simp only [EVA, Nat.reduceAdd, Nat.reduceMul, Nat.reduceSub, Nat.reduceLeDiff, Nat.reduceLT, Nat.reduceBEq, Nat.reduceEqDiff, reduceIte, reduceCtorEq, Int.reduceLT, Int.reduceLE, Int.reduceToNat, Int.reducePow, Nat.reducePow, Int.reduceAdd, Int.reduceSub, Int.reduceNeg, Int.reduceEq, String.reduceEq, eq_true h5, eq_true h10, eq_true h11.1, eq_true h11.2, q13, eq_true h14.1, eq_true h14.2, q16, h19, f_pa0]
            refine AWP.draw noY_sound [[], [], [], [], [3], [], [], [6], [5, 6, 7], [5, 6, 7, 8], [], [], [10, 11], [10, 11, 12], [0, 1, 5, 6, 7, 8, 9, 10, 11, 12, 13], [0, 1, 5, 6, 7, 8, 9, 10, 11, 12, 13, 14], [0, 1, 2, 3, 4, 5, 6, 7, 8, 9, 10, 11, 12, 13, 14, 15], [0, 1, 2, 3, 4, 5, 6, 7, 8, 9, 10, 11, 12, 13, 14, 15, 16]] [⟨0, false, []⟩, ⟨1, false, []⟩, ⟨2, false, []⟩, ⟨3, false, []⟩, ⟨4, false, []⟩, ⟨5, false, []⟩, ⟨6, false, []⟩, ⟨7, false, []⟩, ⟨8, false, []⟩, ⟨9, false, []⟩, ⟨10, false, []⟩, ⟨11, false, []⟩, ⟨12, false, []⟩, ⟨13, false, []⟩, ⟨14, false, []⟩, ⟨15, true, []⟩, ⟨16, false, []⟩, ⟨17, true, []⟩] [0, 1, 2, 3, 4, 5, 6, 7, 8, 9, 10, 11, 12, 13, 14, 15, 16, 17] [0, 1, 5, 6, 7, 8, 9, 10, 11, 12, 13, 14, 15, 2, 3, 4, 16, 17] (by kernel_rfl) ?_
            obtain ⟨h20, hg⟩ := guard_some hg
            obtain ⟨h21, hg⟩ := guard_some hg
            have q22 := rdn_map (AV.int .u64) h21
            obtain ⟨h23, hg⟩ := guard_some hg
            obtain ⟨h24, hg⟩ := guard_some hg
            have q25 := rdn_map (AV.int .u64) h24
            obtain ⟨h26, hg⟩ := guard_some hg
            simp only [EVA, Nat.reduceAdd, Nat.reduceMul, Nat.reduceSub, Nat.reduceLeDiff, Nat.reduceLT, Nat.reduceBEq, Nat.reduceEqDiff, reduceIte, reduceCtorEq, Int.reduceLT, Int.reduceLE, Int.reduceToNat, Int.reducePow, Nat.reducePow, Int.reduceAdd, Int.reduceSub, Int.reduceNeg, Int.reduceEq, String.reduceEq, eq_true h5, eq_true h10, eq_true h11.1, eq_true h11.2, q13, eq_true h14.1, eq_true h14.2, q16, h19, eq_true h20.1, eq_true h20.2, q22, eq_true h23.1, eq_true h23.2, q25, eq_true h26.1, eq_true h26.2, f_pa0]
            obtain ⟨h29, hg⟩ := guard_some hg
            refine eop_storeL_go (H0 := H0) (id := pa0) (off := (Int.toNat x6)) (AV.int .u64) (l := x7) (v := rdn x7 (Int.toNat (IntKind.i64.wrap (x6 - 1)))) rfl rfl f_pa0 ty53 rfl rfl rfl h29 hE g_pa0 ?_
            intro H27 hE f9_pa0 p28 l9
            have hft := hft.keep f_pa0 p28
            have hfo := hfo.keep nf_pa0 p28
            have f_pa0 : H27[pa0]? = some (.cells (List.map (AV.int .u64) (List.set x7 (Int.toNat x6) (rdn x7 (Int.toNat (IntKind.i64.wrap (x6 - 1))))))) := f9_pa0
            obtain ⟨h30, hg⟩ := guard_some hg
            simp only [EVA, Nat.reduceAdd, Nat.reduceMul, Nat.reduceSub, Nat.reduceLeDiff, Nat.reduceLT, Nat.reduceBEq, Nat.reduceEqDiff, reduceIte, reduceCtorEq, Int.reduceLT, Int.reduceLE, Int.reduceToNat, Int.reducePow, Nat.reducePow, Int.reduceAdd, Int.reduceSub, Int.reduceNeg, Int.reduceEq, String.reduceEq, eq_true h5, eq_true h10, eq_true h11.1, eq_true h11.2, q13, eq_true h14.1, eq_true h14.2, q16, h19, eq_true h20.1, eq_true h20.2, q22, eq_true h23.1, eq_true h23.2, q25, eq_true h26.1, eq_true h26.2, eq_true h30.1, eq_true h30.2, f_pa0]
            obtain ⟨h33, hg⟩ := guard_some hg
            refine eop_storeL_go (H0 := H0) (id := pa0) (off := (Int.toNat (IntKind.i64.wrap (x6 - 1)))) (AV.int .u64) (l := List.set x7 (Int.toNat x6) (rdn x7 (Int.toNat (IntKind.i64.wrap (x6 - 1))))) (v := rdn x7 (Int.toNat x6)) rfl rfl f_pa0 ty53 rfl rfl rfl h33 hE g_pa0 ?_
            intro H31 hE f9_pa0 p32 l9
            have hft := hft.keep f_pa0 p32
            have hfo := hfo.keep nf_pa0 p32
            have f_pa0 : H31[pa0]? = some (.cells (List.map (AV.int .u64) (List.set (List.set x7 (Int.toNat x6) (rdn x7 (Int.toNat (IntKind.i64.wrap (x6 - 1))))) (Int.toNat (IntKind.i64.wrap (x6 - 1))) (rdn x7 (Int.toNat x6))))) := f9_pa0
            simp only [EVA, Nat.reduceAdd, Nat.reduceMul, Nat.reduceSub, Nat.reduceLeDiff, Nat.reduceLT, Nat.reduceBEq, Nat.reduceEqDiff, reduceIte, reduceCtorEq, Int.reduceLT, Int.reduceLE, Int.reduceToNat, Int.reducePow, Nat.reducePow, Int.reduceAdd, Int.reduceSub, Int.reduceNeg, Int.reduceEq, String.reduceEq, eq_true h5, eq_true h10, eq_true h11.1, eq_true h11.2, q13, eq_true h14.1, eq_true h14.2, q16, h19, eq_true h20.1, eq_true h20.2, q22, eq_true h23.1, eq_true h23.2, q25, eq_true h26.1, eq_true h26.2, eq_true h30.1, eq_true h30.2, f_pa0]
            exact ⟨⟨k8, IntKind.i64.wrap (x6 - 1), List.set (List.set x7 (Int.toNat x6) (rdn x7 (Int.toNat (IntKind.i64.wrap (x6 - 1))))) (Int.toNat (IntKind.i64.wrap (x6 - 1))) (rdn x7 (Int.toNat x6))⟩, (by repeat' first | exact Wk.nil | apply Wk.u | apply Wk.r), ⟨hg, hE, f_pa0, hfo, hft⟩, Nat.lt_succ_self _⟩
          · have h19 := Bool.eq_false_iff.2 h19
            simp only [EVA, Nat.reduceAdd, Nat.reduceMul, Nat.reduceSub, Nat.reduceLeDiff, Nat.reduceLT, Nat.reduceBEq, Nat.reduceEqDiff, reduceIte, reduceCtorEq, Int.reduceLT, Int.reduceLE, Int.reduceToNat, Int.reducePow, Nat.reducePow, Int.reduceAdd, Int.reduceSub, Int.reduceNeg, Int.reduceEq, String.reduceEq, eq_true h5, eq_true h10, eq_true h11.1, eq_true h11.2, q13, eq_true h14.1, eq_true h14.2, q16, h19, f_pa0]
            exact ⟨⟨k3, IntKind.i64.wrap (x1 + 1), x7⟩, (by repeat' first | exact Wk.nil | apply Wk.u | apply Wk.r), ⟨hg, hE, f_pa0, hfo, hft⟩, Nat.lt_succ_self _⟩
        · refine Br.no h10 ?_
          simp only [EVA, Nat.reduceAdd, Nat.reduceMul, Nat.reduceSub, Nat.reduceLeDiff, Nat.reduceLT, Nat.reduceBEq, Nat.reduceEqDiff, reduceIte, reduceCtorEq, Int.reduceLT, Int.reduceLE, Int.reduceToNat, Int.reducePow, Nat.reducePow, Int.reduceAdd, Int.reduceSub, Int.reduceNeg, Int.reduceEq, String.reduceEq, eq_true h5, eq_false h10, f_pa0]
          exact ⟨⟨k3, IntKind.i64.wrap (x1 + 1), x7⟩, (by repeat' first | exact Wk.nil | apply Wk.u | apply Wk.r), ⟨hg, hE, f_pa0, hfo, hft⟩, Nat.lt_succ_self _⟩
    · refine Br.no h5 ?_
      simp only [EVA, Nat.reduceAdd, Nat.reduceMul, Nat.reduceSub, Nat.reduceLeDiff, Nat.reduceLT, Nat.reduceBEq, Nat.reduceEqDiff, reduceIte, reduceCtorEq, Int.reduceLT, Int.reduceLE, Int.reduceToNat, Int.reducePow, Nat.reducePow, Int.reduceAdd, Int.reduceSub, Int.reduceNeg, Int.reduceEq, String.reduceEq, rs101, eq_false h5, f_pa0]
      obtain rfl := Option.some.inj hg
      exact (hK  _ hE f_pa0 hfo hft)
end Go.Av
end
