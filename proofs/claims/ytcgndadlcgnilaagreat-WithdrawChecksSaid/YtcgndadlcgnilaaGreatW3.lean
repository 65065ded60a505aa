/- the walks, part 3 -/
import Derived.Test.YtcgndadlcgnilaaGreatA28
import Derived.Test.YtcgndadlcgnilaaGreatW1
import Derived.Test.YtcgndadlcgnilaaGreatW2
set_option autoImplicit false
set_option linter.unusedSimpArgs false
set_option linter.unusedVariables false
set_option linter.unnecessarySimpa false
section
set_option maxHeartbeats 1000000
set_option maxRecDepth 10000
namespace Go.Av
open Go.Proofs
/-- skymosaic/skymosaicref38.Inputs -/
def l9_0 (n : Nat) (a0 : List Int) (a1 : Int) : Nat → List Int → Int → Option (List Int)
 | 0, _, _ => none
 | k4 + 1, x1, x3 => (g7 n a1 5).bind fun v7 => if x3 < v7 then ((g31 n a0 (IntKind.i64.wrap (x3 + 2)) 30).bind fun v10 => if x1.length + 1 ≤ 17592186044416 then ((l9_0 n a0 a1 k4) (x1 ++ ([IntKind.u64.wrap v10] : List Int)) (IntKind.i64.wrap (x3 + 1))) else none) else (some x1)
theorem rs9 : Tryz.f9.results.toList = [.tmp 4] := rfl
def g9 (n : Nat) (a0 : List Int) (a1 : Int) : Option (List Int) := l9_0 n a0 a1 n ([] : List Int) 0
theorem c9 (B : Nat) (w0 : World) (n : Nat) (a0 : List Int) (a1 : Int) (ta0 : Tail) (H : AHeap) (K : AV → AHeap → Prop) (r : (List Int)) (hg : g9 n a0 a1 = some r)  (hK : ∀ (q0 : Tail) (H' : AHeap), Ext H H' → Free H H' q0 → K (.dl 1 (List.map (AV.int .u64) r) q0) H') : ACall Tryz.prog B w0 9 [.dl 1 (List.map (AV.int .i64) a0) ta0, .int .i64 a1] H K := by
 refine ACall.wkR ?_
 unfold g9 at hg
 refine ACall.enter Tryz.func9 (by kernel_rfl) rfl (eawp_sound noY_sound _ _ _ _ ?_)
 have hE : Ext H H := Ext.refl H
 simp only [EVA, reduceIte, reduceCtorEq, Nat.reduceLT, Nat.reduceLeDiff, Int.reduceEq, Int.reduceLT, Int.reduceLE, Nat.reduceMul, Tryz.ntmps9, rs9, (show IntKind.i64.wrap 2 = 2 from rfl), (show IntKind.i64.wrap 1 = 1 from rfl)]
 refine AWP.loop (σ := Nat × List Int × Int × Tail) (fun s => [.dl 1 (List.map (AV.int .i64) a0) ta0, .int .i64 a1, .undef, .undef, .undef, .dl 1 (List.map (AV.int .u64) s.2.1) s.2.2.2, .int .i64 s.2.2.1, .undef, .undef, .undef, .undef, .undef, .undef, .undef, .undef, .undef, .undef, .undef, .undef, .undef, .undef, .undef]) (fun s H' => l9_0 n a0 a1 s.1 s.2.1 s.2.2.1 = some r ∧ Ext H H' ∧ Free H H' s.2.2.2) (fun s => s.1) ⟨⟨n, ([] : List Int), 0, .full⟩, (by repeat' first | exact Wk.nil | apply Wk.u | apply Wk.r | apply Wk.cons (wkV.nilf _ _)), ⟨hg, hE, (Free.full _ _)⟩⟩ ?_
 rintro ⟨k4, x1, x3, tl2⟩ H5 ⟨hg, hE, F6⟩ _
 try dsimp only at hg F6
 cases k4 with
 | zero => simp only [l9_0, reduceCtorEq] at hg
 | succ k4 =>
  rw [l9_0] at hg
  refine eawp_sound noY_sound _ _ _ _ ?_
  simp only [EVA, reduceIte, reduceCtorEq, Nat.reduceLT, Nat.reduceLeDiff, Int.reduceEq, Int.reduceLT, Int.reduceLE, Nat.reduceMul, (show IntKind.i64.wrap 2 = 2 from rfl), (show IntKind.i64.wrap 1 = 1 from rfl)]
  obtain ⟨v7, ch8, hg⟩ := bind_some hg
  refine ACall.wkA (args := [.int .i64 a1, .int .i64 5]) (c7 B w0 n a1 5 _ _ v7 ch8  ?_) (WkA.r (WkA.r WkA.nil))
  simp only [EVA, reduceIte, reduceCtorEq, Nat.reduceLT, Nat.reduceLeDiff, Int.reduceEq, Int.reduceLT, Int.reduceLE, Nat.reduceMul, (show IntKind.i64.wrap 2 = 2 from rfl), (show IntKind.i64.wrap 1 = 1 from rfl)]
  rcases ite_some hg with ⟨h9, hg⟩ | ⟨h9, hg⟩
  ·refine Br.yes h9 ?_
   simp only [EVA, reduceIte, reduceCtorEq, Nat.reduceLT, Nat.reduceLeDiff, Int.reduceEq, Int.reduceLT, Int.reduceLE, Nat.reduceMul, eq_true h9, (show IntKind.i64.wrap 2 = 2 from rfl), (show IntKind.i64.wrap 1 = 1 from rfl)]
   obtain ⟨v10, ch11, hg⟩ := bind_some hg
   refine ACall.wkA (args := [.dl 1 (List.map (AV.int .i64) a0) ta0, .int .i64 (IntKind.i64.wrap (x3 + 2)), .int .i64 30]) (c31 B w0 n a0 (IntKind.i64.wrap (x3 + 2)) 30 ta0 _ _ v10 ch11  ?_) (WkA.r (WkA.r (WkA.r WkA.nil)))
   simp only [EVA, reduceIte, reduceCtorEq, Nat.reduceLT, Nat.reduceLeDiff, Int.reduceEq, Int.reduceLT, Int.reduceLE, Nat.reduceMul, eq_true h9, (show IntKind.i64.wrap 2 = 2 from rfl), (show IntKind.i64.wrap 1 = 1 from rfl)]
   obtain ⟨h17, hg⟩ := guard_some hg
   refine AppE.goM (H0 := H) (AV.int .u64) x1 ([IntKind.u64.wrap v10] : List Int) (n := 17592186044416) ty27 rfl ty53 rfl rfl (by decide) (.dl 1 [.int .u64 (IntKind.u64.wrap v10)] .full) (wkD.refl _) (srcA_dl ty27 rfl) (.inl rfl) h17 (by decide) (by decide) hE F6 ?_
   intro tl12 H13 hE F14 p15 q16 l9
   simp only [EVA, reduceIte, reduceCtorEq, Nat.reduceLT, Nat.reduceLeDiff, Int.reduceEq, Int.reduceLT, Int.reduceLE, Nat.reduceMul, eq_true h9, (show IntKind.i64.wrap 2 = 2 from rfl), (show IntKind.i64.wrap 1 = 1 from rfl)]
   exact ⟨⟨k4, x1 ++ ([IntKind.u64.wrap v10] : List Int), IntKind.i64.wrap (x3 + 1), tl12⟩, (by repeat' first | exact Wk.nil | apply Wk.u | apply Wk.r), ⟨hg, hE, F14⟩, Nat.lt_succ_self _⟩
  ·refine Br.no h9 ?_
   simp only [EVA, reduceIte, reduceCtorEq, Nat.reduceLT, Nat.reduceLeDiff, Int.reduceEq, Int.reduceLT, Int.reduceLE, Nat.reduceMul, rs9, eq_false h9, (show IntKind.i64.wrap 2 = 2 from rfl), (show IntKind.i64.wrap 1 = 1 from rfl)]
   obtain rfl := Option.some.inj hg
   exact ⟨_, (wkR.a (wkA.refl _)), (hK tl2 _ hE F6)⟩
/-- skymosaic/skymosaicref38.Proofs -/
def l10_2 (n : Nat) (l10_1_REC : List S1 → Int → Option (List (List S1))) (x8 : List S1) (x10 : Int) (v19 : (Int)) : Nat → Int → List Int → Option (List (List S1))
 | 0, _, _ => none
 | k28 + 1, x25, x26 => if x25 < (Int.tmod v19 4) then (if x26.length + 1 ≤ 17592186044416 then ((l10_2 n l10_1_REC x8 x10 v19 k28) (IntKind.i64.wrap (x25 + 1)) (x26 ++ ([IntKind.u64.wrap (IntKind.i64.wrap ((IntKind.i64.wrap (10 + (Int.tmod (IntKind.i64.wrap (Int.tdiv v19 4)) 7))) + x25))] : List Int))) else none) else (if x8.length + 1 ≤ 1599289640401 then (l10_1_REC (x8 ++ ([(⟨0, Int.tmod v19 3, x10, IntKind.u64.wrap v19, x26, ([] : List Int), IntKind.u64.wrap (IntKind.i64.wrap (v19 * x10))⟩ : S1)] : List S1)) (IntKind.i64.wrap (x10 + 1))) else none)
def l10_1 (n : Nat) (l10_0_REC : List (List S1) → Int → Option (List (List S1))) (a0 : List Int) (x1 : List (List S1)) (x3 : Int) : Nat → List S1 → Int → Option (List (List S1))
 | 0, _, _ => none
 | k11 + 1, x8, x10 => (g31 n a0 x3 4).bind fun v16 => if x10 < v16 then ((g31 n a0 (IntKind.i64.wrap ((IntKind.i64.wrap (x3 + x10)) + 1)) 1000).bind fun v19 => l10_2 n (l10_1 n l10_0_REC a0 x1 x3 k11) x8 x10 v19 n 0 ([] : List Int)) else (if x1.length + 1 ≤ 5864062014805 then (l10_0_REC (x1 ++ ([x8] : List (List S1))) (IntKind.i64.wrap (x3 + 1))) else none)
def l10_0 (n : Nat) (a0 : List Int) (a1 : Int) : Nat → List (List S1) → Int → Option (List (List S1))
 | 0, _, _ => none
 | k4 + 1, x1, x3 => if x3 < a1 then (l10_1 n (l10_0 n a0 a1 k4) a0 x1 x3 n ([] : List S1) 0) else (some x1)
theorem rs10 : Tryz.f10.results.toList = [.tmp 4] := rfl
def g10 (n : Nat) (a0 : List Int) (a1 : Int) : Option (List (List S1)) := l10_0 n a0 a1 n ([] : List (List S1)) 0
theorem c10 (B : Nat) (w0 : World) (n : Nat) (a0 : List Int) (a1 : Int) (ta0 : Tail) (H : AHeap) (K : AV → AHeap → Prop) (r : (List (List S1))) (hg : g10 n a0 a1 = some r)  (hK : ∀ (q0 : Tail) (H' : AHeap), Ext H H' → Free H H' q0 → K (.dl 1 (List.map encL3 r) q0) H') : ACall Tryz.prog B w0 10 [.dl 1 (List.map (AV.int .i64) a0) ta0, .int .i64 a1] H K := by
 refine ACall.wkR ?_
 unfold g10 at hg
 refine ACall.enter Tryz.func10 (by kernel_rfl) rfl (eawp_sound noY_sound _ _ _ _ ?_)
 have hE : Ext H H := Ext.refl H
 simp only [EVA, reduceIte, reduceCtorEq, Nat.reduceLT, Nat.reduceLeDiff, Int.reduceEq, Int.reduceLT, Int.reduceLE, Nat.reduceMul, Tryz.ntmps10, rs10, (show IntKind.i64.wrap 0 = 0 from rfl), (show IntKind.i64.wrap 1 = 1 from rfl)]
 refine AWP.loop (σ := Nat × List (List S1) × Int × Tail) (fun s => [.dl 1 (List.map (AV.int .i64) a0) ta0, .int .i64 a1, .undef, .undef, .undef, .dl 1 (List.map encL3 s.2.1) s.2.2.2, .int .i64 s.2.2.1, .undef, .undef, .undef, .undef, .undef, .undef, .undef, .undef, .undef, .undef, .undef, .undef, .undef, .undef, .undef, .undef, .undef, .undef, .undef, .undef, .undef, .undef, .undef, .undef, .undef, .undef, .undef, .undef, .undef, .undef, .undef, .undef, .undef, .undef, .undef, .undef, .undef, .undef, .undef, .undef, .undef, .undef, .undef, .undef, .undef, .undef, .undef, .undef, .undef, .undef, .undef, .undef, .undef, .undef, .undef, .undef, .undef, .undef, .undef, .undef, .undef]) (fun s H' => l10_0 n a0 a1 s.1 s.2.1 s.2.2.1 = some r ∧ Ext H H' ∧ Free H H' s.2.2.2) (fun s => s.1) ⟨⟨n, ([] : List (List S1)), 0, .full⟩, (by repeat' first | exact Wk.nil | apply Wk.u | apply Wk.r | apply Wk.cons (wkV.nilf _ _)), ⟨hg, hE, (Free.full _ _)⟩⟩ ?_
 rintro ⟨k4, x1, x3, tl2⟩ H5 ⟨hg, hE, F6⟩ _
 try dsimp only at hg F6
 cases k4 with
 | zero => simp only [l10_0, reduceCtorEq] at hg
 | succ k4 =>
  rw [l10_0] at hg
  refine eawp_sound noY_sound _ _ _ _ ?_
  simp only [EVA, reduceIte, reduceCtorEq, Nat.reduceLT, Nat.reduceLeDiff, Int.reduceEq, Int.reduceLT, Int.reduceLE, Nat.reduceMul, (show IntKind.i64.wrap 0 = 0 from rfl), (show IntKind.i64.wrap 1 = 1 from rfl)]
  rcases ite_some hg with ⟨h7, hg⟩ | ⟨h7, hg⟩
  ·refine Br.yes h7 ?_
   simp only [EVA, reduceIte, reduceCtorEq, Nat.reduceLT, Nat.reduceLeDiff, Int.reduceEq, Int.reduceLT, Int.reduceLE, Nat.reduceMul, eq_true h7, (show IntKind.i64.wrap 0 = 0 from rfl), (show IntKind.i64.wrap 1 = 1 from rfl)]
   refine AWP.loop (σ := Nat × List S1 × Int × Tail) (fun s => [.dl 1 (List.map (AV.int .i64) a0) ta0, .int .i64 a1, .undef, .undef, .undef, .dl 1 (List.map encL3 x1) tl2, .int .i64 x3, .dl 7 (List.map encS1 s.2.1) s.2.2.2, .int .i64 s.2.2.1, .undef, .undef, .undef, .undef, .undef, .undef, .undef, .undef, .undef, .undef, .undef, .undef, .undef, .undef, .undef, .undef, .undef, .undef, .undef, .undef, .undef, .undef, .undef, .undef, .undef, .undef, .undef, .undef, .undef, .undef, .undef, .undef, .undef, .undef, .undef, .undef, .undef, .undef, .undef, .undef, .undef, .undef, .undef, .undef, .undef, .undef, .undef, .undef, .undef, .undef, .undef, .undef, .undef, .undef, .undef, .undef, .undef, .undef, .undef]) (fun s H' => l10_1 n (l10_0 n a0 a1 k4) a0 x1 x3 s.1 s.2.1 s.2.2.1 = some r ∧ Ext H H' ∧ Free H H' tl2 ∧ Free H H' s.2.2.2 ∧ tlNe tl2 s.2.2.2) (fun s => s.1) ⟨⟨n, ([] : List S1), 0, .full⟩, (by repeat' first | exact Wk.nil | apply Wk.u | apply Wk.r | apply Wk.cons (wkV.nilf _ _)), ⟨hg, hE, F6, (Free.full _ _), (tlNe.full' _)⟩⟩ ?_
   rintro ⟨k11, x8, x10, tl9⟩ H12 ⟨hg, hE, F13, F14, D15⟩ _
   try dsimp only at hg F13 F14 D15
   cases k11 with
   | zero => simp only [l10_1, reduceCtorEq] at hg
   | succ k11 =>
    rw [l10_1] at hg
    refine eawp_sound noY_sound _ _ _ _ ?_
    simp only [EVA, reduceIte, reduceCtorEq, Nat.reduceLT, Nat.reduceLeDiff, Int.reduceEq, Int.reduceLT, Int.reduceLE, Nat.reduceMul, eq_true h7, (show IntKind.i64.wrap 0 = 0 from rfl), (show IntKind.i64.wrap 1 = 1 from rfl)]
    obtain ⟨v16, ch17, hg⟩ := bind_some hg
    refine ACall.wkA (args := [.dl 1 (List.map (AV.int .i64) a0) ta0, .int .i64 x3, .int .i64 4]) (c31 B w0 n a0 x3 4 ta0 _ _ v16 ch17  ?_) (WkA.r (WkA.r (WkA.r WkA.nil)))
    simp only [EVA, reduceIte, reduceCtorEq, Nat.reduceLT, Nat.reduceLeDiff, Int.reduceEq, Int.reduceLT, Int.reduceLE, Nat.reduceMul, eq_true h7, (show IntKind.i64.wrap 0 = 0 from rfl), (show IntKind.i64.wrap 1 = 1 from rfl)]
    rcases ite_some hg with ⟨h18, hg⟩ | ⟨h18, hg⟩
    ·refine Br.yes h18 ?_
     simp only [EVA, reduceIte, reduceCtorEq, Nat.reduceLT, Nat.reduceLeDiff, Int.reduceEq, Int.reduceLT, Int.reduceLE, Nat.reduceMul, eq_true h7, eq_true h18, (show IntKind.i64.wrap 0 = 0 from rfl), (show IntKind.i64.wrap 1 = 1 from rfl)]
     obtain ⟨v19, ch20, hg⟩ := bind_some hg
     refine ACall.wkA (args := [.dl 1 (List.map (AV.int .i64) a0) ta0, .int .i64 (IntKind.i64.wrap ((IntKind.i64.wrap (x3 + x10)) + 1)), .int .i64 1000]) (c31 B w0 n a0 (IntKind.i64.wrap ((IntKind.i64.wrap (x3 + x10)) + 1)) 1000 ta0 _ _ v19 ch20  ?_) (WkA.r (WkA.r (WkA.r WkA.nil)))
     simp only [EVA, reduceIte, reduceCtorEq, Nat.reduceLT, Nat.reduceLeDiff, Int.reduceEq, Int.reduceLT, Int.reduceLE, Nat.reduceMul, eq_true h7, eq_true h18, (show IntKind.i64.wrap 0 = 0 from rfl), (show IntKind.i64.wrap 1 = 1 from rfl)]
     refine eop_alloc_go (H0 := H) ty57 rfl rfl hE ?_
     intro o21 H22 hE xo21 g_o21 f_o21 n_o21
     have F13 := F13.mono xo21
     have F14 := F14.mono xo21
     have f_o21 : H22[o21]? = some (.cells ([.int .i64 0, .int .i64 0, .int .i64 0, .int .u64 0, .dl 0 [] .full, .dl 0 [] .full, .int .u64 0])) := f_o21
     simp only [EVA, reduceIte, reduceCtorEq, Nat.reduceLT, Nat.reduceLeDiff, Int.reduceEq, Int.reduceLT, Int.reduceLE, Nat.reduceMul, eq_true h7, eq_true h18, f_o21, (show IntKind.i64.wrap 0 = 0 from rfl), (show IntKind.i64.wrap 1 = 1 from rfl)]
     refine eop_store_go (H0 := H) (id := o21) (off := 0) (v := .agg [.int .i64 0, .int .i64 (Int.tmod v19 3), .int .i64 x10, .int .u64 (IntKind.u64.wrap v19), .dl 0 [] .full, .dl 0 [] .full, .int .u64 (IntKind.u64.wrap (IntKind.i64.wrap (v19 * x10)))]) rfl rfl f_o21 ty57 rfl rfl (Nat.le_of_ble_eq_true rfl) hE g_o21 ?_
     intro H23 hE f9_o21 p24 l9
     have F13 := F13.keep f_o21 p24
     have F14 := F14.keep f_o21 p24
     have f_o21 : H23[o21]? = some (.cells ([.int .i64 0, .int .i64 (Int.tmod v19 3), .int .i64 x10, .int .u64 (IntKind.u64.wrap v19), .dl 0 [] .full, .dl 0 [] .full, .int .u64 (IntKind.u64.wrap (IntKind.i64.wrap (v19 * x10)))])) := f9_o21
     simp only [EVA, reduceIte, reduceCtorEq, Nat.reduceLT, Nat.reduceLeDiff, Int.reduceEq, Int.reduceLT, Int.reduceLE, Nat.reduceMul, eq_true h7, eq_true h18, f_o21, (show IntKind.i64.wrap 0 = 0 from rfl), (show IntKind.i64.wrap 1 = 1 from rfl)]
     refine AWP.loop (σ := Nat × Int × List Int × Tail) (fun s => [.dl 1 (List.map (AV.int .i64) a0) ta0, .int .i64 a1, .undef, .undef, .undef, .dl 1 (List.map encL3 x1) tl2, .int .i64 x3, .dl 7 (List.map encS1 x8) tl9, .int .i64 x10, .int .i64 v19, .ptr o21 0, .int .i64 s.2.1, .undef, .undef, .undef, .undef, .undef, .undef, .undef, .undef, .undef, .undef, .undef, .undef, .undef, .undef, .undef, .undef, .undef, .undef, .undef, .undef, .undef, .undef, .undef, .undef, .undef, .undef, .undef, .undef, .undef, .undef, .undef, .undef, .undef, .undef, .undef, .undef, .undef, .undef, .undef, .undef, .undef, .undef, .undef, .undef, .undef, .undef, .undef, .undef, .undef, .undef, .undef, .undef, .undef, .undef, .undef, .undef]) (fun s H' => l10_2 n (l10_1 n (l10_0 n a0 a1 k4) a0 x1 x3 k11) x8 x10 v19 s.1 s.2.1 s.2.2.1 = some r ∧ Ext H H' ∧ ObjW H' o21 ([.int .i64 0, .int .i64 (Int.tmod v19 3), .int .i64 x10, .int .u64 (IntKind.u64.wrap v19), .dl 1 (List.map (AV.int .u64) s.2.2.1) s.2.2.2, .dl 0 [] .full, .int .u64 (IntKind.u64.wrap (IntKind.i64.wrap (v19 * x10)))]) ∧ Free H H' tl2 ∧ Free H H' tl9 ∧ Free H H' s.2.2.2 ∧ tlNe tl2 tl9 ∧ tlNe tl2 s.2.2.2 ∧ tlNe tl9 s.2.2.2) (fun s => s.1) ⟨⟨n, 0, ([] : List Int), .full⟩, (by repeat' first | exact Wk.nil | apply Wk.u | apply Wk.r), ⟨hg, hE, ⟨_, f_o21, (by repeat' first | exact Wk.nil | apply Wk.u | apply Wk.r | apply Wk.cons (wkV.nilf _ _))⟩, F13, F14, (Free.full _ _), D15, (tlNe.full' _), (tlNe.full' _)⟩⟩ ?_
     rintro ⟨k28, x25, x26, tl27⟩ H29 ⟨hg, hE, f_o21, F30, F31, F32, D33, D34, D35⟩ _
     try dsimp only at hg f_o21 F30 F31 F32 D33 D34 D35
     cases k28 with
     | zero => simp only [l10_2, reduceCtorEq] at hg
     | succ k28 =>
      rw [l10_2] at hg
      obtain ⟨cs_o21, f_o21, w_o21⟩ := f_o21
      refine AWP.wkGo (H0 := H) f_o21 w_o21 hE g_o21 ?_
      intro H36 hE f9_o21 p37 l9
      have F30 := F30.keep f_o21 p37
      have F31 := F31.keep f_o21 p37
      have F32 := F32.keep f_o21 p37
      have f_o21 : H36[o21]? = some (.cells ([.int .i64 0, .int .i64 (Int.tmod v19 3), .int .i64 x10, .int .u64 (IntKind.u64.wrap v19), .dl 1 (List.map (AV.int .u64) x26) tl27, .dl 0 [] .full, .int .u64 (IntKind.u64.wrap (IntKind.i64.wrap (v19 * x10)))])) := f9_o21
      refine eawp_sound noY_sound _ _ _ _ ?_
      simp only [EVA, reduceIte, reduceCtorEq, Nat.reduceLT, Nat.reduceLeDiff, Int.reduceEq, Int.reduceLT, Int.reduceLE, Nat.reduceMul, eq_true h7, eq_true h18, f_o21, (show IntKind.i64.wrap 0 = 0 from rfl), (show IntKind.i64.wrap 1 = 1 from rfl)]
      rcases ite_some hg with ⟨h38, hg⟩ | ⟨h38, hg⟩
      ·refine Br.yes h38 ?_
       simp only [EVA, reduceIte, reduceCtorEq, Nat.reduceLT, Nat.reduceLeDiff, Int.reduceEq, Int.reduceLT, Int.reduceLE, Nat.reduceMul, eq_true h7, eq_true h18, eq_true h38, f_o21, (show IntKind.i64.wrap 0 = 0 from rfl), (show IntKind.i64.wrap 1 = 1 from rfl)]
       obtain ⟨h44, hg⟩ := guard_some hg
       refine AppE.goM (H0 := H) (AV.int .u64) x26 ([IntKind.u64.wrap (IntKind.i64.wrap ((IntKind.i64.wrap (10 + (Int.tmod (IntKind.i64.wrap (Int.tdiv v19 4)) 7))) + x25))] : List Int) (n := 17592186044416) ty27 rfl ty53 rfl rfl (by decide) (.dl 1 [.int .u64 (IntKind.u64.wrap (IntKind.i64.wrap ((IntKind.i64.wrap (10 + (Int.tmod (IntKind.i64.wrap (Int.tdiv v19 4)) 7))) + x25)))] .full) (wkD.refl _) (srcA_dl ty27 rfl) (.inl rfl) h44 (by decide) (by decide) hE F32 ?_
       intro tl39 H40 hE F41 p42 q43 l9
       have f_o21 := p42 _ _ (cnt _) f_o21
       obtain ⟨F30, D45⟩ := q43 _ F30 D34.symm
       obtain ⟨F31, D46⟩ := q43 _ F31 D35.symm
       simp only [EVA, reduceIte, reduceCtorEq, Nat.reduceLT, Nat.reduceLeDiff, Int.reduceEq, Int.reduceLT, Int.reduceLE, Nat.reduceMul, eq_true h7, eq_true h18, eq_true h38, f_o21, (show IntKind.i64.wrap 0 = 0 from rfl), (show IntKind.i64.wrap 1 = 1 from rfl)]
       refine eop_store_go (H0 := H) (id := o21) (off := 4) (v := .dl 1 (List.map (AV.int .u64) (x26 ++ ([IntKind.u64.wrap (IntKind.i64.wrap ((IntKind.i64.wrap (10 + (Int.tmod (IntKind.i64.wrap (Int.tdiv v19 4)) 7))) + x25))] : List Int))) tl39) rfl rfl f_o21 ty27 rfl rfl (Nat.le_of_ble_eq_true rfl) hE g_o21 ?_
       intro H47 hE f9_o21 p48 l9
       have F30 := F30.keep f_o21 p48
       have F31 := F31.keep f_o21 p48
       have F41 := F41.keep f_o21 p48
       have f_o21 : H47[o21]? = some (.cells ([.int .i64 0, .int .i64 (Int.tmod v19 3), .int .i64 x10, .int .u64 (IntKind.u64.wrap v19), .dl 1 (List.map (AV.int .u64) (x26 ++ ([IntKind.u64.wrap (IntKind.i64.wrap ((IntKind.i64.wrap (10 + (Int.tmod (IntKind.i64.wrap (Int.tdiv v19 4)) 7))) + x25))] : List Int))) tl39, .dl 0 [] .full, .int .u64 (IntKind.u64.wrap (IntKind.i64.wrap (v19 * x10)))])) := f9_o21
       simp only [EVA, reduceIte, reduceCtorEq, Nat.reduceLT, Nat.reduceLeDiff, Int.reduceEq, Int.reduceLT, Int.reduceLE, Nat.reduceMul, eq_true h7, eq_true h18, eq_true h38, f_o21, (show IntKind.i64.wrap 0 = 0 from rfl), (show IntKind.i64.wrap 1 = 1 from rfl)]
       exact ⟨⟨k28, IntKind.i64.wrap (x25 + 1), x26 ++ ([IntKind.u64.wrap (IntKind.i64.wrap ((IntKind.i64.wrap (10 + (Int.tmod (IntKind.i64.wrap (Int.tdiv v19 4)) 7))) + x25))] : List Int), tl39⟩, (by repeat' first | exact Wk.nil | apply Wk.u | apply Wk.r), ⟨hg, hE, ⟨_, f_o21, (by repeat' first | exact Wk.nil | apply Wk.u | apply Wk.r)⟩, F30, F31, F41, D33, D45.symm, D46.symm⟩, Nat.lt_succ_self _⟩
      ·refine Br.no h38 ?_
       simp only [EVA, reduceIte, reduceCtorEq, Nat.reduceLT, Nat.reduceLeDiff, Int.reduceEq, Int.reduceLT, Int.reduceLE, Nat.reduceMul, eq_true h7, eq_true h18, eq_false h38, f_o21, (show IntKind.i64.wrap 0 = 0 from rfl), (show IntKind.i64.wrap 1 = 1 from rfl)]
       obtain ⟨h54, hg⟩ := guard_some hg
       refine AppE.goM (H0 := H) encS1 x8 ([(⟨0, Int.tmod v19 3, x10, IntKind.u64.wrap v19, x26, ([] : List Int), IntKind.u64.wrap (IntKind.i64.wrap (v19 * x10))⟩ : S1)] : List S1) (n := 1599289640401) ty52 rfl ty57 rfl rfl (by decide) (.dl 7 [.agg [.int .i64 0, .int .i64 (Int.tmod v19 3), .int .i64 x10, .int .u64 (IntKind.u64.wrap v19), .dl 1 (List.map (AV.int .u64) x26) .none, .dl 1 (List.map (AV.int .u64) ([] : List Int)) .none, .int .u64 (IntKind.u64.wrap (IntKind.i64.wrap (v19 * x10)))]] .full) (wkD.one rfl (by repeat' first | exact Wk.nil | apply Wk.u | apply Wk.r | apply Wk.cons (wkV.nil _ _ _) | apply Wk.cons (wkV.tail _ _ _))) (srcA_dl ty52 rfl) (.inl rfl) h54 (by decide) (by decide) hE F31 ?_
       intro tl49 H50 hE F51 p52 q53 l9
       have f_o21 := p52 _ _ (cnt _) f_o21
       obtain ⟨F30, D55⟩ := q53 _ F30 D33.symm
       obtain ⟨F32, D56⟩ := q53 _ F32 D35
       simp only [EVA, reduceIte, reduceCtorEq, Nat.reduceLT, Nat.reduceLeDiff, Int.reduceEq, Int.reduceLT, Int.reduceLE, Nat.reduceMul, eq_true h7, eq_true h18, eq_false h38, f_o21, (show IntKind.i64.wrap 0 = 0 from rfl), (show IntKind.i64.wrap 1 = 1 from rfl)]
       exact ⟨⟨k11, x8 ++ ([(⟨0, Int.tmod v19 3, x10, IntKind.u64.wrap v19, x26, ([] : List Int), IntKind.u64.wrap (IntKind.i64.wrap (v19 * x10))⟩ : S1)] : List S1), IntKind.i64.wrap (x10 + 1), tl49⟩, (by repeat' first | exact Wk.nil | apply Wk.u | apply Wk.r), ⟨hg, hE, F30, F51, D55.symm⟩, Nat.lt_succ_self _⟩
    ·refine Br.no h18 ?_
     simp only [EVA, reduceIte, reduceCtorEq, Nat.reduceLT, Nat.reduceLeDiff, Int.reduceEq, Int.reduceLT, Int.reduceLE, Nat.reduceMul, eq_true h7, eq_false h18, (show IntKind.i64.wrap 0 = 0 from rfl), (show IntKind.i64.wrap 1 = 1 from rfl)]
     obtain ⟨h62, hg⟩ := guard_some hg
     refine AppE.goM (H0 := H) encL3 x1 ([x8] : List (List S1)) (n := 5864062014805) ty29 rfl ty52 rfl rfl (by decide) (.dl 1 [.dl 7 (List.map encS1 x8) .none] .full) (wkD.one rfl (by repeat' first | exact Wk.nil | apply Wk.u | apply Wk.r | apply Wk.cons (wkV.tail _ _ _))) (srcA_dl ty29 rfl) (.inl rfl) h62 (by decide) (by decide) hE F13 ?_
     intro tl57 H58 hE F59 p60 q61 l9
     obtain ⟨F14, D63⟩ := q61 _ F14 D15
     simp only [EVA, reduceIte, reduceCtorEq, Nat.reduceLT, Nat.reduceLeDiff, Int.reduceEq, Int.reduceLT, Int.reduceLE, Nat.reduceMul, eq_true h7, eq_false h18, (show IntKind.i64.wrap 0 = 0 from rfl), (show IntKind.i64.wrap 1 = 1 from rfl)]
     exact ⟨⟨k4, x1 ++ ([x8] : List (List S1)), IntKind.i64.wrap (x3 + 1), tl57⟩, (by repeat' first | exact Wk.nil | apply Wk.u | apply Wk.r), ⟨hg, hE, F59⟩, Nat.lt_succ_self _⟩
  ·refine Br.no h7 ?_
   simp only [EVA, reduceIte, reduceCtorEq, Nat.reduceLT, Nat.reduceLeDiff, Int.reduceEq, Int.reduceLT, Int.reduceLE, Nat.reduceMul, rs10, eq_false h7, (show IntKind.i64.wrap 0 = 0 from rfl), (show IntKind.i64.wrap 1 = 1 from rfl)]
   obtain rfl := Option.some.inj hg
   exact ⟨_, (wkR.a (wkA.refl _)), (hK tl2 _ hE F6)⟩
/-- skymosaic/hash.mix -/
theorem rs78 : Tryz.f78.results.toList = [.tmp 4] := rfl
def g78 (n : Nat) (a0 : Int) (a1 : Int) : Option (Int) := some (bitsA .xor .u64 (IntKind.u64.wrap ((bitsA .xor .u64 a0 a1) * 11400714819323198485)) (Int.fdiv (IntKind.u64.wrap ((bitsA .xor .u64 a0 a1) * 11400714819323198485)) 4294967296))
theorem c78 (B : Nat) (w0 : World) (n : Nat) (a0 : Int) (a1 : Int) (H : AHeap) (K : AV → AHeap → Prop) (r : (Int)) (hg : g78 n a0 a1 = some r)  (hK : K (.int .u64 r) H) : ACall Tryz.prog B w0 78 [.int .u64 a0, .int .u64 a1] H K := by
 unfold g78 at hg
 refine ACall.enter Tryz.func78 (by kernel_rfl) rfl (eawp_sound noY_sound _ _ _ _ ?_)
 have hE : Ext H H := Ext.refl H
 simp only [EVA, reduceIte, reduceCtorEq, Tryz.ntmps78, rs78, rs78]
 obtain rfl := Option.some.inj hg
 exact hK
/-- skymosaic/hash.words[string]$1 -/
def l99_0_1 {σ : Type} (n : Nat) (l99_0_0_REC : Int → σ → Option σ) (a1 : (List UInt8)) (f : Int → σ → Option (Bool × σ)) (x1 : Int) (x2 : σ) : Nat → Int → Int → Option σ
 | 0, _, _ => none
 | k8 + 1, x6, x7 => if x7 < (if (a1.length : Int) < (IntKind.i64.wrap (x1 + 8)) then (a1.length : Int) else (IntKind.i64.wrap (x1 + 8))) then (if (0 : Int) ≤ x7 ∧ x7 < (a1.length : Int) then (if ¬ (IntKind.i64.wrap (8 * (IntKind.i64.wrap (x7 - x1)))) < 0 then ((l99_0_1 n l99_0_0_REC a1 f x1 x2 k8) (bitsA .or .u64 x6 (IntKind.u64.wrap ((IntKind.u64.wrap ((a1.getD (Int.toNat x7) 0).toNat : Int)) * 2 ^ (min (Int.toNat (IntKind.i64.wrap (8 * (IntKind.i64.wrap (x7 - x1))))) (IntKind.u64.bits))))) (IntKind.i64.wrap (x7 + 1))) else none) else none) else ((f x6 x2).bind fun v13 => if v13.1 = true then (l99_0_0_REC (IntKind.i64.wrap (x1 + 8)) v13.2) else (some v13.2))
def l99_0_0 {σ : Type} (n : Nat) (a1 : (List UInt8)) (f : Int → σ → Option (Bool × σ)) : Nat → Int → σ → Option σ
 | 0, _, _ => none
 | k3 + 1, x1, x2 => if x1 < (a1.length : Int) then (l99_0_1 n (l99_0_0 n a1 f k3) a1 f x1 x2 n 0 x1) else (some x2)
theorem rs99_0 : Tryz.f99.results.toList = [] := rfl
def g99_0 {σ : Type} (n : Nat) (a1 : (List UInt8)) (f : Int → σ → Option (Bool × σ)) (it0 : σ) : Option σ := l99_0_0 n a1 f n 0 it0
theorem c99_0 {σ : Type} (B : Nat) (w0 : World) (n : Nat) (a1 : (List UInt8)) (lY : Nat) (pa1 : Nat) (f : Int → σ → Option (Bool × σ)) (I : σ → AHeap → Prop) (H : AHeap) (K : AV → AHeap → Prop) (it0 r : σ) (hg : g99_0 n a1 f it0 = some r) (hI : I it0 H) (hp_pa1 : ∀ (st : σ) (H' : AHeap), I st H' → H'[pa1]? = some (.cells ([.str a1]))) (hY : ∀ (y0 : Int) (st : σ) (H' : AHeap) (r : Bool × σ) (K' : AV → AHeap → Prop), I st H' → f y0 st = some r → (∀ H'', I r.2 H'' → K' (.bool r.1) H'') → roundY Tryz.prog B w0 lY [.int .u64 y0] H' K') (hK : ∀ H', I r H' → K (.tup []) H') : ACall Tryz.prog B w0 99 [.fn (.yield lY) [] [], .ptr pa1 0] H K := by
 unfold g99_0 at hg
 refine ACall.enter Tryz.func99 (by kernel_rfl) rfl (eawp_sound roundY_sound _ _ _ _ ?_)
 have f_pa1 := hp_pa1 _ _ hI
 simp only [EVA, reduceIte, reduceCtorEq, Tryz.ntmps99, rs99_0, f_pa1, (show IntKind.i64.wrap 8 = 8 from rfl), (show IntKind.i64.wrap 0 = 0 from rfl), (show IntKind.i64.wrap 1 = 1 from rfl)]
 refine AWP.loop (σ := Nat × Int × σ) (fun s => [.fn (.yield lY) [] [], .ptr pa1 0, .undef, .int .i64 s.2.1, .undef, .undef, .undef, .undef, .undef, .undef, .undef, .undef, .undef, .undef, .undef, .undef, .undef, .undef, .undef, .undef, .undef, .undef, .undef, .undef, .undef, .undef, .undef, .undef, .undef, .undef, .undef, .undef, .undef, .undef, .undef, .undef, .undef]) (fun s H' => l99_0_0 n a1 f s.1 s.2.1 s.2.2 = some r ∧ I s.2.2 H') (fun s => s.1) ⟨⟨n, 0, it0⟩, (by repeat' first | exact Wk.nil | apply Wk.u | apply Wk.r), ⟨hg, hI⟩⟩ ?_
 rintro ⟨k3, x1, x2⟩ H4 ⟨hg, hI⟩ _
 have f_pa1 := hp_pa1 _ _ hI
 try dsimp only at hg
 cases k3 with
 | zero => simp only [l99_0_0, reduceCtorEq] at hg
 | succ k3 =>
  rw [l99_0_0] at hg
  refine eawp_sound roundY_sound _ _ _ _ ?_
  simp only [EVA, reduceIte, reduceCtorEq, f_pa1, (show IntKind.i64.wrap 8 = 8 from rfl), (show IntKind.i64.wrap 0 = 0 from rfl), (show IntKind.i64.wrap 1 = 1 from rfl)]
  rcases ite_some hg with ⟨h5, hg⟩ | ⟨h5, hg⟩
  ·refine Br.yes h5 ?_
   simp only [EVA, reduceIte, reduceCtorEq, eq_true h5, f_pa1, (show IntKind.i64.wrap 8 = 8 from rfl), (show IntKind.i64.wrap 0 = 0 from rfl), (show IntKind.i64.wrap 1 = 1 from rfl)]
   refine AWP.loop (σ := Nat × Int × Int) (fun s => [.fn (.yield lY) [] [], .ptr pa1 0, .undef, .int .i64 x1, .int .u64 s.2.1, .int .i64 s.2.2, .undef, .undef, .undef, .undef, .undef, .undef, .undef, .undef, .undef, .undef, .undef, .undef, .undef, .undef, .undef, .undef, .undef, .undef, .undef, .undef, .undef, .undef, .undef, .undef, .undef, .undef, .undef, .undef, .undef, .undef, .undef]) (fun s H' => l99_0_1 n (l99_0_0 n a1 f k3) a1 f x1 x2 s.1 s.2.1 s.2.2 = some r ∧ SameH H4 H') (fun s => s.1) ⟨⟨n, 0, x1⟩, (by repeat' first | exact Wk.nil | apply Wk.u | apply Wk.r), ⟨hg, (rfl : SameH _ _)⟩⟩ ?_
   rintro ⟨k8, x6, x7⟩ H9 ⟨hg, hH9⟩ _
   unfold SameH at hH9
   subst hH9
   try dsimp only at hg
   cases k8 with
   | zero => simp only [l99_0_1, reduceCtorEq] at hg
   | succ k8 =>
    rw [l99_0_1] at hg
    refine eawp_sound roundY_sound _ _ _ _ ?_
    simp only [EVA, reduceIte, reduceCtorEq, eq_true h5, f_pa1, (show IntKind.i64.wrap 8 = 8 from rfl), (show IntKind.i64.wrap 0 = 0 from rfl), (show IntKind.i64.wrap 1 = 1 from rfl)]
    rcases ite_some hg with ⟨h10, hg⟩ | ⟨h10, hg⟩
    ·refine Br.yes h10 ?_
     obtain ⟨h11, hg⟩ := guard_some hg
     obtain ⟨h12, hg⟩ := guard_some hg
     simp only [EVA, reduceIte, reduceCtorEq, eq_true h5, eq_true h10, eq_true h11.1, eq_true h11.2, eq_false h12, shlI, shrI, f_pa1, (show IntKind.i64.wrap 8 = 8 from rfl), (show IntKind.i64.wrap 0 = 0 from rfl), (show IntKind.i64.wrap 1 = 1 from rfl)]
     exact ⟨⟨k8, bitsA .or .u64 x6 (IntKind.u64.wrap ((IntKind.u64.wrap ((a1.getD (Int.toNat x7) 0).toNat : Int)) * 2 ^ (min (Int.toNat (IntKind.i64.wrap (8 * (IntKind.i64.wrap (x7 - x1))))) (IntKind.u64.bits)))), IntKind.i64.wrap (x7 + 1)⟩, (by repeat' first | exact Wk.nil | apply Wk.u | apply Wk.r), ⟨hg, (rfl : SameH _ _)⟩, Nat.lt_succ_self _⟩
    ·refine Br.no h10 ?_
     simp only [EVA, reduceIte, reduceCtorEq, eq_true h5, eq_false h10, f_pa1, (show IntKind.i64.wrap 8 = 8 from rfl), (show IntKind.i64.wrap 0 = 0 from rfl), (show IntKind.i64.wrap 1 = 1 from rfl)]
     obtain ⟨v13, ch14, hg⟩ := bind_some hg
     refine hY x6 _ _ v13 _ hI ch14 ?_
     intro H15 hI
     have f_pa1 := hp_pa1 _ _ hI
     rcases ite_some hg with ⟨h16, hg⟩ | ⟨h16, hg⟩
     ·simp only [EVA, reduceIte, reduceCtorEq, eq_true h5, eq_false h10, h16, f_pa1, (show IntKind.i64.wrap 8 = 8 from rfl), (show IntKind.i64.wrap 0 = 0 from rfl), (show IntKind.i64.wrap 1 = 1 from rfl)]
      exact ⟨⟨k3, IntKind.i64.wrap (x1 + 8), v13.2⟩, (by repeat' first | exact Wk.nil | apply Wk.u | apply Wk.r), ⟨hg, hI⟩, Nat.lt_succ_self _⟩
     ·have h16 := Bool.eq_false_iff.2 h16
      simp only [EVA, reduceIte, reduceCtorEq, rs99_0, eq_true h5, eq_false h10, h16, f_pa1, (show IntKind.i64.wrap 8 = 8 from rfl), (show IntKind.i64.wrap 0 = 0 from rfl), (show IntKind.i64.wrap 1 = 1 from rfl)]
      obtain rfl := Option.some.inj hg
      exact hK _ hI
  ·refine Br.no h5 ?_
   simp only [EVA, reduceIte, reduceCtorEq, rs99_0, eq_false h5, f_pa1, (show IntKind.i64.wrap 8 = 8 from rfl), (show IntKind.i64.wrap 0 = 0 from rfl), (show IntKind.i64.wrap 1 = 1 from rfl)]
   obtain rfl := Option.some.inj hg
   exact hK _ hI
/-- skymosaic/hash.Sum -/
def l45_0 (n : Nat) (a1 : List Int) : Nat → Int → Int → Option (Int)
 | 0, _, _ => none
 | k35 + 1, x33, x34 => if x33 < (a1.length : Int) then (if (0 : Int) ≤ x33 ∧ x33 < (a1.length : Int) then ((g78 n x34 (IntKind.u64.wrap (rd a1 x33))).bind fun v40 => (l45_0 n a1 k35) (IntKind.i64.wrap (x33 + 1)) v40) else none) else ((g78 n x34 0).bind fun v44 => some v44)
theorem rs45 : Tryz.f45.results.toList = [.tmp 4] := rfl
def g45 (n : Nat) (a0 : (List UInt8)) (a1 : List Int) : Option (Int) := (g99_0 n a0 (fun (w13 : Int) (s : Int) => (g78 n s w13).bind fun v16 => some (true, v16)) 0).bind fun v22 => (g78 n v22 (IntKind.u64.wrap (a0.length : Int))).bind fun v27 => (g78 n v27 (IntKind.u64.wrap (a1.length : Int))).bind fun v29 => l45_0 n a1 n 0 v29
theorem c45 (B : Nat) (w0 : World) (n : Nat) (a0 : (List UInt8)) (a1 : List Int) (ta1 : Tail) (H : AHeap) (K : AV → AHeap → Prop) (r : (Int)) (hg : g45 n a0 a1 = some r)  (hK : ∀ (H' : AHeap), Ext H H' → K (.int .u64 r) H') : ACall Tryz.prog B w0 45 [.str a0, .dl 1 (List.map (AV.int .i64) a1) ta1] H K := by
 unfold g45 at hg
 refine ACall.enter Tryz.func45 (by kernel_rfl) rfl (eawp_sound noY_sound _ _ _ _ ?_)
 have hE : Ext H H := Ext.refl H
 simp only [EVA, reduceIte, reduceCtorEq, Tryz.ntmps45, rs45, (show IntKind.i64.wrap 1 = 1 from rfl)]
 refine eop_alloc_go (H0 := H) ty53 rfl rfl hE ?_
 intro o1 H2 hE xo1 g_o1 f_o1 n_o1
 have f_o1 : H2[o1]? = some (.cells ([.int .u64 0])) := f_o1
 simp only [EVA, reduceIte, reduceCtorEq, f_o1, (show IntKind.i64.wrap 1 = 1 from rfl)]
 refine eop_store_go (H0 := H) (id := o1) (off := 0) (v := .int .u64 0) rfl rfl f_o1 ty53 rfl rfl (Nat.le_of_ble_eq_true rfl) hE g_o1 ?_
 intro H3 hE f9_o1 p4 l9
 have f_o1 : H3[o1]? = some (.cells ([.int .u64 0])) := f9_o1
 simp only [EVA, reduceIte, reduceCtorEq, f_o1, (show IntKind.i64.wrap 1 = 1 from rfl)]
 refine ACall.enter Tryz.func77 (by kernel_rfl) rfl (eawp_sound noY_sound _ _ _ _ ?_)
 have rs5 : Tryz.f77.results.toList = [.tmp 2] := rfl
 simp only [EVA, reduceIte, reduceCtorEq, Tryz.ntmps77, rs5, f_o1, (show IntKind.i64.wrap 1 = 1 from rfl)]
 refine eop_box_go (H0 := H) (v := .str a0) rfl rfl hE ?_
 intro o6 H7 hE xo6 g_o6 f_o6 n_o6
 have ne_o1_o6 := n_o6 _ _ f_o1
 have f_o1 := xo6.2 _ _ f_o1
 have f_o6 : H7[o6]? = some (.cells ([.str a0])) := f_o6
 simp only [EVA, reduceIte, reduceCtorEq, Tryz.ntmps77, rs5, f_o1, f_o6, (show IntKind.i64.wrap 1 = 1 from rfl)]
 refine AWP.rangeGo2 (H0 := H) (fun _ h => by cases h) rfl hE ?_
 intro l8 H9 lp_l8 KE_l8 tk_l8 hr_l8 he_l8 hE xl8 f_l8 g_l8 n_l8
 have ne_o1_l8 := n_l8 _ _ f_o1
 have f_o1 := xl8.2 _ _ f_o1
 have ne_o6_l8 := n_l8 _ _ f_o6
 have f_o6 := xl8.2 _ _ f_o6
 obtain ⟨v22, ch23, hg⟩ := bind_some hg
 refine c99_0 (σ := Int) B w0 n a0 l8 o6 (fun (w13 : Int) (s : Int) => (g78 n s w13).bind fun v16 => some (true, v16)) (fun s H' => H'[l8]? = some lp_l8 ∧ Ext H H' ∧ ObjAt H' o1 ([.int .u64 s]) ∧ ObjAt H' o6 ([.str a0])) _ _ 0 v22 ch23 ⟨f_l8, hE, f_o1, f_o6⟩ (by rintro s9 H9 ⟨f_l8, hE, f9_o1, f9_o6⟩; exact f9_o6) ?_ ?_
 ·rintro w13 x10 H11 r K12 ⟨f_l8, hE, f9_o1, f9_o6⟩ hg hK12
  try dsimp only at hg
  have f_o1 : H11[o1]? = some (.cells ([.int .u64 x10])) := f9_o1
  clear f9_o1
  have f_o6 : H11[o6]? = some (.cells ([.str a0])) := f9_o6
  clear f9_o6
  refine hr_l8 _ _ _ ([.str a0, .dl 1 (List.map (AV.int .i64) a1) ta1, .undef, .undef, .int .u64 0, .ptr o1 0, .int .u64 w13, .undef, .undef, .str a0, .fn (.func 99) [] [.ptr o6 0], .int .u64 w13, .undef, .undef, .undef, .undef, .undef, .undef, .undef, .undef, .undef, .undef, .undef, .undef, .undef, .undef, .undef, .undef, .undef, .undef, .undef, .undef, .undef, .undef, .undef, .undef, .undef]) f_l8 rfl (by simp only [EVA, reduceIte, reduceCtorEq, doneQ_normal, Tryz.ntmps77, rs5, f_o1, f_o6, (show IntKind.i64.wrap 1 = 1 from rfl)] <;> first | exact ⟨rfl, rfl⟩ | exact rfl) hE ?_
  intro H14 lp2_l8 Qr_l8 tk2_l8 hE f9 p15 l9 hq_l8
  have f_o1 := p15 _ _ ne_o1_l8 f_o1
  have f_o6 := p15 _ _ ne_o6_l8 f_o6
  have f_l8 := f9
  refine eawp_sound noY_sound _ _ _ _ ?_
  simp only [EVA, reduceIte, reduceCtorEq, Tryz.ntmps77, rs5, f_o1, f_o6, (show IntKind.i64.wrap 1 = 1 from rfl)]
  obtain ⟨v16, ch17, hg⟩ := bind_some hg
  refine ACall.wkA (args := [.int .u64 x10, .int .u64 w13]) (c78 B w0 n x10 w13 _ _ v16 ch17  ?_) (WkA.r (WkA.r WkA.nil))
  simp only [EVA, reduceIte, reduceCtorEq, Tryz.ntmps77, rs5, f_o1, f_o6, (show IntKind.i64.wrap 1 = 1 from rfl)]
  refine eop_store_go (H0 := H) (id := o1) (off := 0) (v := .int .u64 v16) rfl rfl f_o1 ty53 rfl rfl (Nat.le_of_ble_eq_true rfl) hE g_o1 ?_
  intro H18 hE f9_o1 p19 l9
  have f_o6 := p19 _ _ (Ne.symm ne_o1_o6) f_o6
  have f_l8 := p19 _ _ (Ne.symm ne_o1_l8) f_l8
  have f_o1 : H18[o1]? = some (.cells ([.int .u64 v16])) := f9_o1
  simp only [EVA, reduceIte, reduceCtorEq, Tryz.ntmps77, rs5, f_o1, f_o6, (show IntKind.i64.wrap 1 = 1 from rfl)]
  refine hq_l8 _ _ hE f_l8 ?_
  intro H20 hE f9 p21 l9
  have f_o1 := p21 _ _ ne_o1_l8 f_o1
  have f_o6 := p21 _ _ ne_o6_l8 f_o6
  have f_l8 := f9
  obtain rfl := Option.some.inj hg
  exact hK12 _ ⟨f_l8, hE, f_o1, f_o6⟩
 ·rintro H24 ⟨f_l8, hE, f9_o1, f9_o6⟩
  have f_o1 : H24[o1]? = some (.cells ([.int .u64 v22])) := f9_o1
  clear f9_o1
  have f_o6 : H24[o6]? = some (.cells ([.str a0])) := f9_o6
  clear f9_o6
  refine he_l8 _ _ hE f_l8 ?_
  intro H25 hE p26 l9
  have f_o1 := p26 _ _ ne_o1_l8 f_o1
  have f_o6 := p26 _ _ ne_o6_l8 f_o6
  simp only [EVA, reduceIte, reduceCtorEq, Tryz.ntmps77, rs5, f_o1, f_o6, (show IntKind.i64.wrap 1 = 1 from rfl)]
  obtain ⟨v27, ch28, hg⟩ := bind_some hg
  refine ACall.wkA (args := [.int .u64 v22, .int .u64 (IntKind.u64.wrap (a0.length : Int))]) (c78 B w0 n v22 (IntKind.u64.wrap (a0.length : Int)) _ _ v27 ch28  ?_) (WkA.r (WkA.r WkA.nil))
  simp only [EVA, reduceIte, reduceCtorEq, Tryz.ntmps77, rs5, f_o1, f_o6, (show IntKind.i64.wrap 1 = 1 from rfl)]
  obtain ⟨v29, ch30, hg⟩ := bind_some hg
  refine ACall.wkA (args := [.int .u64 v27, .int .u64 (IntKind.u64.wrap (a1.length : Int))]) (c78 B w0 n v27 (IntKind.u64.wrap (a1.length : Int)) _ _ v29 ch30  ?_) (WkA.r (WkA.r WkA.nil))
  simp only [EVA, reduceIte, reduceCtorEq, Tryz.ntmps77, rs5, f_o1, f_o6, (show IntKind.i64.wrap 1 = 1 from rfl)]
  refine eop_store_go (H0 := H) (id := o1) (off := 0) (v := .int .u64 v29) rfl rfl f_o1 ty53 rfl rfl (Nat.le_of_ble_eq_true rfl) hE g_o1 ?_
  intro H31 hE f9_o1 p32 l9
  have f_o6 := p32 _ _ (Ne.symm ne_o1_o6) f_o6
  have f_o1 : H31[o1]? = some (.cells ([.int .u64 v29])) := f9_o1
  simp only [EVA, reduceIte, reduceCtorEq, Tryz.ntmps77, rs5, f_o1, f_o6, (show IntKind.i64.wrap 1 = 1 from rfl)]
  refine AWP.loop (σ := Nat × Int × Int) (fun s => [.undef, .undef, .undef, .undef, .undef, .ptr o1 0, .undef, .undef, .undef, .undef, .undef, .undef, .undef, .undef, .undef, .undef, .undef, .undef, .undef, .undef, .undef, .undef, .undef, .undef, .dl 1 (List.map (AV.int .i64) a1) ta1, .int .i64 (a1.length : Int), .int .i64 s.2.1, .undef, .undef, .undef, .undef, .undef, .undef, .undef, .undef, .undef, .undef]) (fun s H' => l45_0 n a1 s.1 s.2.1 s.2.2 = some r ∧ Ext H H' ∧ ObjAt H' o1 ([.int .u64 s.2.2]) ∧ ObjAt H' o6 ([.str a0])) (fun s => s.1) ⟨⟨n, 0, v29⟩, (by repeat' first | exact Wk.nil | apply Wk.u | apply Wk.r), ⟨hg, hE, f_o1, f_o6⟩⟩ ?_
  rintro ⟨k35, x33, x34⟩ H36 ⟨hg, hE, f9_o1, f9_o6⟩ _
  have f_o1 : H36[o1]? = some (.cells ([.int .u64 x34])) := f9_o1
  clear f9_o1
  have f_o6 : H36[o6]? = some (.cells ([.str a0])) := f9_o6
  clear f9_o6
  try dsimp only at hg
  cases k35 with
  | zero => simp only [l45_0, reduceCtorEq] at hg
  | succ k35 =>
   rw [l45_0] at hg
   refine eawp_sound noY_sound _ _ _ _ ?_
   simp only [EVA, reduceIte, reduceCtorEq, Tryz.ntmps77, rs5, f_o1, f_o6, (show IntKind.i64.wrap 1 = 1 from rfl)]
   rcases ite_some hg with ⟨h37, hg⟩ | ⟨h37, hg⟩
   ·refine Br.yes h37 ?_
    obtain ⟨h38, hg⟩ := guard_some hg
    have q39 : List.getD (List.map (AV.int .i64) a1) (Int.toNat x33) AV.undef = (AV.int .i64) (rd a1 x33) := rd_map (l := a1) (i := x33) (AV.int .i64) h38
    simp only [EVA, reduceIte, reduceCtorEq, Tryz.ntmps77, rs5, eq_true h37, eq_true h38.1, eq_true h38.2, q39, f_o1, f_o6, (show IntKind.i64.wrap 1 = 1 from rfl)]
    obtain ⟨v40, ch41, hg⟩ := bind_some hg
    refine ACall.wkA (args := [.int .u64 x34, .int .u64 (IntKind.u64.wrap (rd a1 x33))]) (c78 B w0 n x34 (IntKind.u64.wrap (rd a1 x33)) _ _ v40 ch41  ?_) (WkA.r (WkA.r WkA.nil))
    simp only [EVA, reduceIte, reduceCtorEq, Tryz.ntmps77, rs5, eq_true h37, eq_true h38.1, eq_true h38.2, q39, f_o1, f_o6, (show IntKind.i64.wrap 1 = 1 from rfl)]
    refine eop_store_go (H0 := H) (id := o1) (off := 0) (v := .int .u64 v40) rfl rfl f_o1 ty53 rfl rfl (Nat.le_of_ble_eq_true rfl) hE g_o1 ?_
    intro H42 hE f9_o1 p43 l9
    have f_o6 := p43 _ _ (Ne.symm ne_o1_o6) f_o6
    have f_o1 : H42[o1]? = some (.cells ([.int .u64 v40])) := f9_o1
    simp only [EVA, reduceIte, reduceCtorEq, Tryz.ntmps77, rs5, eq_true h37, eq_true h38.1, eq_true h38.2, q39, f_o1, f_o6, (show IntKind.i64.wrap 1 = 1 from rfl)]
    exact ⟨⟨k35, IntKind.i64.wrap (x33 + 1), v40⟩, (by repeat' first | exact Wk.nil | apply Wk.u | apply Wk.r), ⟨hg, hE, f_o1, f_o6⟩, Nat.lt_succ_self _⟩
   ·refine Br.no h37 ?_
    simp only [EVA, reduceIte, reduceCtorEq, Tryz.ntmps77, rs5, eq_false h37, f_o1, f_o6, (show IntKind.i64.wrap 1 = 1 from rfl)]
    obtain ⟨v44, ch45, hg⟩ := bind_some hg
    refine ACall.wkA (args := [.int .u64 x34, .int .u64 0]) (c78 B w0 n x34 0 _ _ v44 ch45  ?_) (WkA.r (WkA.r WkA.nil))
    simp only [EVA, reduceIte, reduceCtorEq, rs45, Tryz.ntmps77, rs5, eq_false h37, f_o1, f_o6, (show IntKind.i64.wrap 1 = 1 from rfl)]
    obtain rfl := Option.some.inj hg
    exact (hK  _ hE )
/-- skymosaic/hash.Pair -/
theorem rs46 : Tryz.f46.results.toList = [.tmp 4] := rfl
def g46 (n : Nat) (a0 : Int) (a1 : Int) : Option (Int) := (g45 n ([112, 97, 105, 114]) ([IntKind.i64.wrap a0, IntKind.i64.wrap a1] : List Int)).bind fun v1 => some v1
theorem c46 (B : Nat) (w0 : World) (n : Nat) (a0 : Int) (a1 : Int) (H : AHeap) (K : AV → AHeap → Prop) (r : (Int)) (hg : g46 n a0 a1 = some r)  (hK : ∀ (H' : AHeap), Ext H H' → K (.int .u64 r) H') : ACall Tryz.prog B w0 46 [.int .u64 a0, .int .u64 a1] H K := by
 unfold g46 at hg
 refine ACall.enter Tryz.func46 (by kernel_rfl) rfl (eawp_sound noY_sound _ _ _ _ ?_)
 have hE : Ext H H := Ext.refl H
 simp only [EVA, reduceIte, reduceCtorEq, Nat.reduceLT, Nat.reduceLeDiff, Int.reduceEq, Int.reduceLT, Int.reduceLE, Nat.reduceMul, Tryz.ntmps46, rs46]
 obtain ⟨v1, ch2, hg⟩ := bind_some hg
 refine ACall.wkA (args := [.str ([112, 97, 105, 114]), .dl 1 (List.map (AV.int .i64) ([IntKind.i64.wrap a0, IntKind.i64.wrap a1] : List Int)) .full]) (c45 B w0 n ([112, 97, 105, 114]) ([IntKind.i64.wrap a0, IntKind.i64.wrap a1] : List Int) .full _ _ v1 ch2  ?_) (WkA.r (WkA.r WkA.nil))
 intro H3 x4
 have hE := hE.trans x4
 simp only [EVA, reduceIte, reduceCtorEq, Nat.reduceLT, Nat.reduceLeDiff, Int.reduceEq, Int.reduceLT, Int.reduceLE, Nat.reduceMul, rs46]
 obtain rfl := Option.some.inj hg
 exact (hK  _ hE )
/-- skymosaic/hash.words[[]byte]$1 -/
def l100_0_1 {σ : Type} (n : Nat) (l100_0_0_REC : Int → σ → Option σ) (a1 : List Int) (f : Int → σ → Option (Bool × σ)) (x1 : Int) (x2 : σ) : Nat → Int → Int → Option σ
 | 0, _, _ => none
 | k8 + 1, x6, x7 => if x7 < (if (a1.length : Int) < (IntKind.i64.wrap (x1 + 8)) then (a1.length : Int) else (IntKind.i64.wrap (x1 + 8))) then (if (0 : Int) ≤ x7 ∧ x7 < (a1.length : Int) then (if ¬ (IntKind.i64.wrap (8 * (IntKind.i64.wrap (x7 - x1)))) < 0 then ((l100_0_1 n l100_0_0_REC a1 f x1 x2 k8) (bitsA .or .u64 x6 (IntKind.u64.wrap ((IntKind.u64.wrap (rd a1 x7)) * 2 ^ (min (Int.toNat (IntKind.i64.wrap (8 * (IntKind.i64.wrap (x7 - x1))))) (IntKind.u64.bits))))) (IntKind.i64.wrap (x7 + 1))) else none) else none) else ((f x6 x2).bind fun v14 => if v14.1 = true then (l100_0_0_REC (IntKind.i64.wrap (x1 + 8)) v14.2) else (some v14.2))
def l100_0_0 {σ : Type} (n : Nat) (a1 : List Int) (f : Int → σ → Option (Bool × σ)) : Nat → Int → σ → Option σ
 | 0, _, _ => none
 | k3 + 1, x1, x2 => if x1 < (a1.length : Int) then (l100_0_1 n (l100_0_0 n a1 f k3) a1 f x1 x2 n 0 x1) else (some x2)
theorem rs100_0 : Tryz.f100.results.toList = [] := rfl
def g100_0 {σ : Type} (n : Nat) (a1 : List Int) (f : Int → σ → Option (Bool × σ)) (it0 : σ) : Option σ := l100_0_0 n a1 f n 0 it0
theorem c100_0 {σ : Type} (B : Nat) (w0 : World) (n : Nat) (a1 : List Int) (lY : Nat) (pa1 : Nat) (f : Int → σ → Option (Bool × σ)) (I : σ → AHeap → Prop) (H : AHeap) (K : AV → AHeap → Prop) (it0 r : σ) (hg : g100_0 n a1 f it0 = some r) (hI : I it0 H) (hp_pa1 : ∀ (st : σ) (H' : AHeap), I st H' → H'[pa1]? = some (.cells ([.dl 1 (List.map (AV.int .u8) a1) .none]))) (hY : ∀ (y0 : Int) (st : σ) (H' : AHeap) (r : Bool × σ) (K' : AV → AHeap → Prop), I st H' → f y0 st = some r → (∀ H'', I r.2 H'' → K' (.bool r.1) H'') → roundY Tryz.prog B w0 lY [.int .u64 y0] H' K') (hK : ∀ H', I r H' → K (.tup []) H') : ACall Tryz.prog B w0 100 [.fn (.yield lY) [] [], .ptr pa1 0] H K := by
 unfold g100_0 at hg
 refine ACall.enter Tryz.func100 (by kernel_rfl) rfl (eawp_sound roundY_sound _ _ _ _ ?_)
 have f_pa1 := hp_pa1 _ _ hI
 simp only [EVA, reduceIte, reduceCtorEq, Tryz.ntmps100, rs100_0, f_pa1, (show IntKind.i64.wrap 8 = 8 from rfl), (show IntKind.i64.wrap 0 = 0 from rfl), (show IntKind.i64.wrap 1 = 1 from rfl)]
 refine AWP.loop (σ := Nat × Int × σ) (fun s => [.fn (.yield lY) [] [], .ptr pa1 0, .undef, .int .i64 s.2.1, .undef, .undef, .undef, .undef, .undef, .undef, .undef, .undef, .undef, .undef, .undef, .undef, .undef, .undef, .undef, .undef, .undef, .undef, .undef, .undef, .undef, .undef, .undef, .undef, .undef, .undef, .undef, .undef, .undef, .undef, .undef, .undef, .undef, .undef]) (fun s H' => l100_0_0 n a1 f s.1 s.2.1 s.2.2 = some r ∧ I s.2.2 H') (fun s => s.1) ⟨⟨n, 0, it0⟩, (by repeat' first | exact Wk.nil | apply Wk.u | apply Wk.r), ⟨hg, hI⟩⟩ ?_
 rintro ⟨k3, x1, x2⟩ H4 ⟨hg, hI⟩ _
 have f_pa1 := hp_pa1 _ _ hI
 try dsimp only at hg
 cases k3 with
 | zero => simp only [l100_0_0, reduceCtorEq] at hg
 | succ k3 =>
  rw [l100_0_0] at hg
  refine eawp_sound roundY_sound _ _ _ _ ?_
  simp only [EVA, reduceIte, reduceCtorEq, f_pa1, (show IntKind.i64.wrap 8 = 8 from rfl), (show IntKind.i64.wrap 0 = 0 from rfl), (show IntKind.i64.wrap 1 = 1 from rfl)]
  rcases ite_some hg with ⟨h5, hg⟩ | ⟨h5, hg⟩
  ·refine Br.yes h5 ?_
   simp only [EVA, reduceIte, reduceCtorEq, eq_true h5, f_pa1, (show IntKind.i64.wrap 8 = 8 from rfl), (show IntKind.i64.wrap 0 = 0 from rfl), (show IntKind.i64.wrap 1 = 1 from rfl)]
   refine AWP.loop (σ := Nat × Int × Int) (fun s => [.fn (.yield lY) [] [], .ptr pa1 0, .undef, .int .i64 x1, .int .u64 s.2.1, .int .i64 s.2.2, .undef, .undef, .undef, .undef, .undef, .undef, .undef, .undef, .undef, .undef, .undef, .undef, .undef, .undef, .undef, .undef, .undef, .undef, .undef, .undef, .undef, .undef, .undef, .undef, .undef, .undef, .undef, .undef, .undef, .undef, .undef, .undef]) (fun s H' => l100_0_1 n (l100_0_0 n a1 f k3) a1 f x1 x2 s.1 s.2.1 s.2.2 = some r ∧ SameH H4 H') (fun s => s.1) ⟨⟨n, 0, x1⟩, (by repeat' first | exact Wk.nil | apply Wk.u | apply Wk.r), ⟨hg, (rfl : SameH _ _)⟩⟩ ?_
   rintro ⟨k8, x6, x7⟩ H9 ⟨hg, hH9⟩ _
   unfold SameH at hH9
   subst hH9
   try dsimp only at hg
   cases k8 with
   | zero => simp only [l100_0_1, reduceCtorEq] at hg
   | succ k8 =>
    rw [l100_0_1] at hg
    refine eawp_sound roundY_sound _ _ _ _ ?_
    simp only [EVA, reduceIte, reduceCtorEq, eq_true h5, f_pa1, (show IntKind.i64.wrap 8 = 8 from rfl), (show IntKind.i64.wrap 0 = 0 from rfl), (show IntKind.i64.wrap 1 = 1 from rfl)]
    rcases ite_some hg with ⟨h10, hg⟩ | ⟨h10, hg⟩
    ·refine Br.yes h10 ?_
     obtain ⟨h11, hg⟩ := guard_some hg
     have q12 : List.getD (List.map (AV.int .u8) a1) (Int.toNat x7) AV.undef = (AV.int .u8) (rd a1 x7) := rd_map (l := a1) (i := x7) (AV.int .u8) h11
     obtain ⟨h13, hg⟩ := guard_some hg
     simp only [EVA, reduceIte, reduceCtorEq, eq_true h5, eq_true h10, eq_true h11.1, eq_true h11.2, q12, eq_false h13, shlI, shrI, f_pa1, (show IntKind.i64.wrap 8 = 8 from rfl), (show IntKind.i64.wrap 0 = 0 from rfl), (show IntKind.i64.wrap 1 = 1 from rfl)]
     exact ⟨⟨k8, bitsA .or .u64 x6 (IntKind.u64.wrap ((IntKind.u64.wrap (rd a1 x7)) * 2 ^ (min (Int.toNat (IntKind.i64.wrap (8 * (IntKind.i64.wrap (x7 - x1))))) (IntKind.u64.bits)))), IntKind.i64.wrap (x7 + 1)⟩, (by repeat' first | exact Wk.nil | apply Wk.u | apply Wk.r), ⟨hg, (rfl : SameH _ _)⟩, Nat.lt_succ_self _⟩
    ·refine Br.no h10 ?_
     simp only [EVA, reduceIte, reduceCtorEq, eq_true h5, eq_false h10, f_pa1, (show IntKind.i64.wrap 8 = 8 from rfl), (show IntKind.i64.wrap 0 = 0 from rfl), (show IntKind.i64.wrap 1 = 1 from rfl)]
     obtain ⟨v14, ch15, hg⟩ := bind_some hg
     refine hY x6 _ _ v14 _ hI ch15 ?_
     intro H16 hI
     have f_pa1 := hp_pa1 _ _ hI
     rcases ite_some hg with ⟨h17, hg⟩ | ⟨h17, hg⟩
     ·simp only [EVA, reduceIte, reduceCtorEq, eq_true h5, eq_false h10, h17, f_pa1, (show IntKind.i64.wrap 8 = 8 from rfl), (show IntKind.i64.wrap 0 = 0 from rfl), (show IntKind.i64.wrap 1 = 1 from rfl)]
      exact ⟨⟨k3, IntKind.i64.wrap (x1 + 8), v14.2⟩, (by repeat' first | exact Wk.nil | apply Wk.u | apply Wk.r), ⟨hg, hI⟩, Nat.lt_succ_self _⟩
     ·have h17 := Bool.eq_false_iff.2 h17
      simp only [EVA, reduceIte, reduceCtorEq, rs100_0, eq_true h5, eq_false h10, h17, f_pa1, (show IntKind.i64.wrap 8 = 8 from rfl), (show IntKind.i64.wrap 0 = 0 from rfl), (show IntKind.i64.wrap 1 = 1 from rfl)]
      obtain rfl := Option.some.inj hg
      exact hK _ hI
  ·refine Br.no h5 ?_
   simp only [EVA, reduceIte, reduceCtorEq, rs100_0, eq_false h5, f_pa1, (show IntKind.i64.wrap 8 = 8 from rfl), (show IntKind.i64.wrap 0 = 0 from rfl), (show IntKind.i64.wrap 1 = 1 from rfl)]
   obtain rfl := Option.some.inj hg
   exact hK _ hI
/-- skymosaic/hash.Bytes -/
theorem rs47 : Tryz.f47.results.toList = [.tmp 4] := rfl
def g47 (n : Nat) (a0 : (List UInt8)) (a1 : List Int) : Option (Int) := (g100_0 n a1 (fun (w17 : Int) (s : List Int) => if s.length + 1 ≤ 17592186044416 then (some (true, s ++ ([IntKind.i64.wrap w17] : List Int))) else none) ([] : List Int)).bind fun v30 => if v30.length + 1 ≤ 17592186044416 then ((g45 n a0 (v30 ++ ([(a1.length : Int)] : List Int))).bind fun v41 => some v41) else none
theorem c47 (B : Nat) (w0 : World) (n : Nat) (a0 : (List UInt8)) (a1 : List Int) (ta1 : Tail) (H : AHeap) (K : AV → AHeap → Prop) (r : (Int)) (hg : g47 n a0 a1 = some r)  (hK : ∀ (H' : AHeap), Ext H H' → K (.int .u64 r) H') : ACall Tryz.prog B w0 47 [.str a0, .dl 1 (List.map (AV.int .u8) a1) ta1] H K := by
 unfold g47 at hg
 refine ACall.enter Tryz.func47 (by kernel_rfl) rfl (eawp_sound noY_sound _ _ _ _ ?_)
 have hE : Ext H H := Ext.refl H
 simp only [EVA, reduceIte, reduceCtorEq, Nat.reduceLT, Nat.reduceLeDiff, Int.reduceEq, Int.reduceLT, Int.reduceLE, Nat.reduceMul, Tryz.ntmps47, rs47]
 refine eop_alloc_go (H0 := H) ty22 rfl rfl hE ?_
 intro o1 H2 hE xo1 g_o1 f_o1 n_o1
 have f_o1 : H2[o1]? = some (.cells ([.dl 0 [] .full])) := f_o1
 simp only [EVA, reduceIte, reduceCtorEq, Nat.reduceLT, Nat.reduceLeDiff, Int.reduceEq, Int.reduceLT, Int.reduceLE, Nat.reduceMul, f_o1]
 refine ACall.enter Tryz.func79 (by kernel_rfl) rfl (eawp_sound noY_sound _ _ _ _ ?_)
 have rs3 : Tryz.f79.results.toList = [.tmp 2] := rfl
 simp only [EVA, reduceIte, reduceCtorEq, Nat.reduceLT, Nat.reduceLeDiff, Int.reduceEq, Int.reduceLT, Int.reduceLE, Nat.reduceMul, Tryz.ntmps79, rs3, f_o1]
 refine eop_box_go (H0 := H) (v := .dl 1 (List.map (AV.int .u8) a1) ta1) rfl rfl hE ?_
 intro o4 H5 hE xo4 g_o4 f_o4 n_o4
 have ne_o1_o4 := n_o4 _ _ f_o1
 have f_o1 := xo4.2 _ _ f_o1
 have f_o4 : H5[o4]? = some (.cells ([.dl 1 (List.map (AV.int .u8) a1) ta1])) := f_o4
 simp only [EVA, reduceIte, reduceCtorEq, Nat.reduceLT, Nat.reduceLeDiff, Int.reduceEq, Int.reduceLT, Int.reduceLE, Nat.reduceMul, Tryz.ntmps79, rs3, f_o1, f_o4]
 refine AWP.wkGo (H0 := H) (cs' := [.dl 1 [] .full]) f_o1 (by repeat' first | exact Wk.nil | apply Wk.u | apply Wk.r | apply Wk.cons (wkV.nilf _ _)) hE g_o1 ?_
 intro H12 hE f9_o1 p13 l9
 have f_o4 := p13 _ _ (Ne.symm ne_o1_o4) f_o4
 have f_o1 : H12[o1]? = some (.cells ([.dl 1 [] .full])) := f9_o1
 refine AWP.wkGo (H0 := H) (cs' := [.dl 1 (List.map (AV.int .u8) a1) .none]) f_o4 (by repeat' first | exact Wk.nil | apply Wk.u | apply Wk.r | apply Wk.cons (wkV.tail _ _ _)) hE g_o4 ?_
 intro H6 hE f9_o4 p7 l9
 have f_o1 := p7 _ _ ne_o1_o4 f_o1
 have f_o4 : H6[o4]? = some (.cells ([.dl 1 (List.map (AV.int .u8) a1) .none])) := f9_o4
 refine AWP.rangeGo2 (H0 := H) (fun _ h => by cases h) rfl hE ?_
 intro l8 H9 lp_l8 KE_l8 tk_l8 hr_l8 he_l8 hE xl8 f_l8 g_l8 n_l8
 have ne_o1_l8 := n_l8 _ _ f_o1
 have f_o1 := xl8.2 _ _ f_o1
 have ne_o4_l8 := n_l8 _ _ f_o4
 have f_o4 := xl8.2 _ _ f_o4
 obtain ⟨v30, ch31, hg⟩ := bind_some hg
 refine c100_0 (σ := List Int) B w0 n a1 l8 o4 (fun (w17 : Int) (s : List Int) => if s.length + 1 ≤ 17592186044416 then (some (true, s ++ ([IntKind.i64.wrap w17] : List Int))) else none) (fun s H' => ∃ tl11 : Tail, H'[l8]? = some lp_l8 ∧ Ext H H' ∧ ObjAt H' o1 ([.dl 1 (List.map (AV.int .i64) s) tl11]) ∧ ObjAt H' o4 ([.dl 1 (List.map (AV.int .u8) a1) .none]) ∧ Free H H' tl11) _ _ ([] : List Int) v30 ch31 ⟨.full, f_l8, hE, f_o1, f_o4, (Free.full _ _)⟩ (by rintro s9 H9 ⟨tl11, f_l8, hE, f9_o1, f9_o4, F14⟩; exact f9_o4) ?_ ?_
 ·rintro w17 x10 H15 r K16 ⟨tl11, f_l8, hE, f9_o1, f9_o4, F14⟩ hg hK16
  try dsimp only at hg
  have f_o1 : H15[o1]? = some (.cells ([.dl 1 (List.map (AV.int .i64) x10) tl11])) := f9_o1
  clear f9_o1
  have f_o4 : H15[o4]? = some (.cells ([.dl 1 (List.map (AV.int .u8) a1) .none])) := f9_o4
  clear f9_o4
  refine hr_l8 _ _ _ ([.str a0, .dl 1 (List.map (AV.int .u8) a1) ta1, .undef, .undef, .int .u64 0, .ptr o1 0, .int .u64 w17, .dl 1 (List.map (AV.int .u8) a1) ta1, .fn (.func 100) [] [.ptr o4 0], .int .u64 w17, .undef, .undef, .undef, .undef, .undef, .undef, .undef, .undef, .undef, .undef, .undef, .undef]) f_l8 rfl (by simp only [EVA, reduceIte, reduceCtorEq, Nat.reduceLT, Nat.reduceLeDiff, Int.reduceEq, Int.reduceLT, Int.reduceLE, Nat.reduceMul, doneQ_normal, Tryz.ntmps79, rs3, f_o1, f_o4] <;> first | exact ⟨rfl, rfl⟩ | exact rfl) hE ?_
  intro H18 lp2_l8 Qr_l8 tk2_l8 hE f9 p19 l9 hq_l8
  have F14 := F14.keepO f_l8 tk_l8 p19
  have f_o1 := p19 _ _ ne_o1_l8 f_o1
  have f_o4 := p19 _ _ ne_o4_l8 f_o4
  have f_l8 := f9
  refine eawp_sound noY_sound _ _ _ _ ?_
  simp only [EVA, reduceIte, reduceCtorEq, Nat.reduceLT, Nat.reduceLeDiff, Int.reduceEq, Int.reduceLT, Int.reduceLE, Nat.reduceMul, Tryz.ntmps79, rs3, f_o1, f_o4]
  obtain ⟨h25, hg⟩ := guard_some hg
  refine AppE.goM (H0 := H) (AV.int .i64) x10 ([IntKind.i64.wrap w17] : List Int) (n := 17592186044416) ty22 rfl ty3 rfl rfl (by decide) (.dl 1 [.int .i64 (IntKind.i64.wrap w17)] .full) (wkD.refl _) (srcA_dl ty22 rfl) (.inl rfl) h25 (by decide) (by decide) hE F14 ?_
  intro tl20 H21 hE F22 p23 q24 l9
  have f_o1 := p23 _ _ (cnt _) f_o1
  have f_o4 := p23 _ _ (cnt _) f_o4
  have f_l8 := p23 _ _ tk2_l8 f_l8
  simp only [EVA, reduceIte, reduceCtorEq, Nat.reduceLT, Nat.reduceLeDiff, Int.reduceEq, Int.reduceLT, Int.reduceLE, Nat.reduceMul, Tryz.ntmps79, rs3, f_o1, f_o4]
  refine eop_store_go (H0 := H) (id := o1) (off := 0) (v := .dl 1 (List.map (AV.int .i64) (x10 ++ ([IntKind.i64.wrap w17] : List Int))) tl20) rfl rfl f_o1 ty22 rfl rfl (Nat.le_of_ble_eq_true rfl) hE g_o1 ?_
  intro H26 hE f9_o1 p27 l9
  have F22 := F22.keep f_o1 p27
  have f_o4 := p27 _ _ (Ne.symm ne_o1_o4) f_o4
  have f_l8 := p27 _ _ (Ne.symm ne_o1_l8) f_l8
  have f_o1 : H26[o1]? = some (.cells ([.dl 1 (List.map (AV.int .i64) (x10 ++ ([IntKind.i64.wrap w17] : List Int))) tl20])) := f9_o1
  simp only [EVA, reduceIte, reduceCtorEq, Nat.reduceLT, Nat.reduceLeDiff, Int.reduceEq, Int.reduceLT, Int.reduceLE, Nat.reduceMul, Tryz.ntmps79, rs3, f_o1, f_o4]
  refine hq_l8 _ _ hE f_l8 ?_
  intro H28 hE f9 p29 l9
  have F22 := F22.keepO f_l8 tk2_l8 p29
  have f_o1 := p29 _ _ ne_o1_l8 f_o1
  have f_o4 := p29 _ _ ne_o4_l8 f_o4
  have f_l8 := f9
  obtain rfl := Option.some.inj hg
  exact hK16 _ ⟨tl20, f_l8, hE, f_o1, f_o4, F22⟩
 ·rintro H32 ⟨tl11, f_l8, hE, f9_o1, f9_o4, F14⟩
  have f_o1 : H32[o1]? = some (.cells ([.dl 1 (List.map (AV.int .i64) v30) tl11])) := f9_o1
  clear f9_o1
  have f_o4 : H32[o4]? = some (.cells ([.dl 1 (List.map (AV.int .u8) a1) .none])) := f9_o4
  clear f9_o4
  refine he_l8 _ _ hE f_l8 ?_
  intro H33 hE p34 l9
  have F14 := F14.keepO f_l8 tk_l8 p34
  have f_o1 := p34 _ _ ne_o1_l8 f_o1
  have f_o4 := p34 _ _ ne_o4_l8 f_o4
  simp only [EVA, reduceIte, reduceCtorEq, Nat.reduceLT, Nat.reduceLeDiff, Int.reduceEq, Int.reduceLT, Int.reduceLE, Nat.reduceMul, Tryz.ntmps79, rs3, f_o1, f_o4]
  obtain ⟨h40, hg⟩ := guard_some hg
  refine AppE.goM (H0 := H) (AV.int .i64) v30 ([(a1.length : Int)] : List Int) (n := 17592186044416) ty22 rfl ty3 rfl rfl (by decide) (.dl 1 [.int .i64 (a1.length : Int)] .full) (wkD.refl _) (srcA_dl ty22 rfl) (.inl rfl) h40 (by decide) (by decide) hE F14 ?_
  intro tl35 H36 hE F37 p38 q39 l9
  have f_o1 := p38 _ _ (cnt _) f_o1
  have f_o4 := p38 _ _ (cnt _) f_o4
  simp only [EVA, reduceIte, reduceCtorEq, Nat.reduceLT, Nat.reduceLeDiff, Int.reduceEq, Int.reduceLT, Int.reduceLE, Nat.reduceMul, Tryz.ntmps79, rs3, f_o1, f_o4]
  obtain ⟨v41, ch42, hg⟩ := bind_some hg
  refine ACall.wkA (args := [.str a0, .dl 1 (List.map (AV.int .i64) (v30 ++ ([(a1.length : Int)] : List Int))) tl35]) (c45 B w0 n a0 (v30 ++ ([(a1.length : Int)] : List Int)) tl35 _ _ v41 ch42  ?_) (WkA.r (WkA.r WkA.nil))
  intro H43 x44
  have F37 := F37.mono x44
  have f_o1 := x44.2 _ _ f_o1
  have f_o4 := x44.2 _ _ f_o4
  have hE := hE.trans x44
  simp only [EVA, reduceIte, reduceCtorEq, Nat.reduceLT, Nat.reduceLeDiff, Int.reduceEq, Int.reduceLT, Int.reduceLE, Nat.reduceMul, rs47, Tryz.ntmps79, rs3, f_o1, f_o4]
  obtain rfl := Option.some.inj hg
  exact (hK  _ hE )
/-- (*skymosaic/wire.Writer).Uint -/
def l80_0 (n : Nat) : Nat → Int → List Int → Option (S5)
 | 0, _, _ => none
 | k4 + 1, x1, x2 => if 128 ≤ x1 then (if x2.length + 1 ≤ 140737488355328 then ((l80_0 n k4) (Int.fdiv x1 128) (x2 ++ ([bitsA .or .u8 (IntKind.u8.wrap x1) 128] : List Int))) else none) else (if x2.length + 1 ≤ 140737488355328 then (some (⟨x2 ++ ([IntKind.u8.wrap x1] : List Int)⟩ : S5)) else none)
theorem rs80 : Tryz.f80.results.toList = [] := rfl
def g80 (n : Nat) (a0 : S5) (a1 : Int) : Option (S5) := l80_0 n n a1 a0.c0
theorem c80 (B : Nat) (w0 : World) (n : Nat) (a0 : S5) (a1 : Int) (ta0_0 : Tail) (pa0 : Nat) (fs : List (Nat × AObj)) (ts : List Tail) (H0 H : AHeap) (K : AV → AHeap → Prop) (r : (S5)) (hg : g80 n a0 a1 = some r) (hE : Ext H0 H) (g_pa0 : H0.length ≤ pa0) (f_pa0 : H[pa0]? = some (.cells ([.dl 1 (List.map (AV.int .u8) a0.c0) ta0_0]))) (nf_pa0 : Nf fs pa0) (F_ta0_0 : Free H0 H ta0_0) (dt_ta0_0 : Dt ta0_0 ts) (hfo : FrObj H fs) (hft : FrTl H0 H ts) (hK : ∀ (qo0_0 : Tail) (H' : AHeap), Ext H0 H' → H'[pa0]? = some (.cells ([.dl 1 (List.map (AV.int .u8) r.c0) qo0_0])) → Free H0 H' qo0_0 → Dt qo0_0 ts → FrObj H' fs → FrTl H0 H' ts → K (.tup []) H') : ACall Tryz.prog B w0 80 [.ptr pa0 0, .int .u64 a1] H K := by
 refine ACall.wkE ?_
 unfold g80 at hg
 refine ACall.enter Tryz.func80 (by kernel_rfl) rfl (eawp_sound noY_sound _ _ _ _ ?_)
 simp only [EVA, reduceIte, reduceCtorEq, Nat.reduceLT, Nat.reduceLeDiff, Int.reduceEq, Int.reduceLT, Int.reduceLE, Nat.reduceMul, Tryz.ntmps80, rs80, f_pa0]
 refine AWP.loop (σ := Nat × Int × List Int × Tail) (fun s => [.ptr pa0 0, .int .u64 s.2.1, .undef, .undef, .undef, .undef, .undef, .undef, .undef, .undef, .undef, .undef, .undef, .undef, .undef, .undef, .undef, .undef, .undef, .undef, .undef, .undef, .undef, .undef, .undef, .undef, .undef, .undef, .undef, .undef, .undef]) (fun s H' => l80_0 n s.1 s.2.1 s.2.2.1 = some r ∧ Ext H0 H' ∧ ObjW H' pa0 ([.dl 1 (List.map (AV.int .u8) s.2.2.1) s.2.2.2]) ∧ Free H0 H' s.2.2.2 ∧ FrObj H' fs ∧ FrTl H0 H' ts ∧ Dt s.2.2.2 ts) (fun s => s.1) ⟨⟨n, a1, a0.c0, ta0_0⟩, (by repeat' first | exact Wk.nil | apply Wk.u | apply Wk.r), ⟨hg, hE, ⟨_, f_pa0, (by repeat' first | exact Wk.nil | apply Wk.u | apply Wk.r)⟩, F_ta0_0, hfo, hft, dt_ta0_0⟩⟩ ?_
 rintro ⟨k4, x1, x2, tl3⟩ H5 ⟨hg, hE, f_pa0, F6, hfo, hft, dt7⟩ _
 try dsimp only at hg f_pa0 F6 dt7
 cases k4 with
 | zero => simp only [l80_0, reduceCtorEq] at hg
 | succ k4 =>
  rw [l80_0] at hg
  obtain ⟨cs_pa0, f_pa0, w_pa0⟩ := f_pa0
  refine AWP.wkGo (H0 := H0) f_pa0 w_pa0 hE g_pa0 ?_
  intro H8 hE f9_pa0 p9 l9
  have F6 := F6.keep f_pa0 p9
  have hft := hft.keep f_pa0 p9
  have hfo := hfo.keep nf_pa0 p9
  have f_pa0 : H8[pa0]? = some (.cells ([.dl 1 (List.map (AV.int .u8) x2) tl3])) := f9_pa0
  refine eawp_sound noY_sound _ _ _ _ ?_
  simp only [EVA, reduceIte, reduceCtorEq, Nat.reduceLT, Nat.reduceLeDiff, Int.reduceEq, Int.reduceLT, Int.reduceLE, Nat.reduceMul, f_pa0]
  rcases ite_some hg with ⟨h10, hg⟩ | ⟨h10, hg⟩
  ·refine Br.yes h10 ?_
   simp only [EVA, reduceIte, reduceCtorEq, Nat.reduceLT, Nat.reduceLeDiff, Int.reduceEq, Int.reduceLT, Int.reduceLE, Nat.reduceMul, eq_true h10, f_pa0]
   obtain ⟨h16, hg⟩ := guard_some hg
   refine AppE.goM (H0 := H0) (AV.int .u8) x2 ([bitsA .or .u8 (IntKind.u8.wrap x1) 128] : List Int) (n := 140737488355328) ty67 rfl ty5 rfl rfl (by decide) (.dl 1 [.int .u8 (bitsA .or .u8 (IntKind.u8.wrap x1) 128)] .full) (wkD.refl _) (srcA_dl ty67 rfl) (.inl rfl) h16 (by decide) (by decide) hE F6 ?_
   intro tl11 H12 hE F13 p14 q15 l9
   have f_pa0 := p14 _ _ (cnt _) f_pa0
   have hfo := hfo.app p14
   obtain ⟨hft, dt17⟩ := hft.app dt7 q15
   simp only [EVA, reduceIte, reduceCtorEq, Nat.reduceLT, Nat.reduceLeDiff, Int.reduceEq, Int.reduceLT, Int.reduceLE, Nat.reduceMul, eq_true h10, f_pa0]
   refine eop_store_go (H0 := H0) (id := pa0) (off := 0) (v := .dl 1 (List.map (AV.int .u8) (x2 ++ ([bitsA .or .u8 (IntKind.u8.wrap x1) 128] : List Int))) tl11) rfl rfl f_pa0 ty67 rfl rfl (Nat.le_of_ble_eq_true rfl) hE g_pa0 ?_
   intro H18 hE f9_pa0 p19 l9
   have F13 := F13.keep f_pa0 p19
   have hft := hft.keep f_pa0 p19
   have hfo := hfo.keep nf_pa0 p19
   have f_pa0 : H18[pa0]? = some (.cells ([.dl 1 (List.map (AV.int .u8) (x2 ++ ([bitsA .or .u8 (IntKind.u8.wrap x1) 128] : List Int))) tl11])) := f9_pa0
   simp only [EVA, reduceIte, reduceCtorEq, Nat.reduceLT, Nat.reduceLeDiff, Int.reduceEq, Int.reduceLT, Int.reduceLE, Nat.reduceMul, eq_true h10, f_pa0]
   exact ⟨⟨k4, Int.fdiv x1 128, x2 ++ ([bitsA .or .u8 (IntKind.u8.wrap x1) 128] : List Int), tl11⟩, (by repeat' first | exact Wk.nil | apply Wk.u | apply Wk.r), ⟨hg, hE, ⟨_, f_pa0, (by repeat' first | exact Wk.nil | apply Wk.u | apply Wk.r)⟩, F13, hfo, hft, dt17⟩, Nat.lt_succ_self _⟩
  ·refine Br.no h10 ?_
   simp only [EVA, reduceIte, reduceCtorEq, Nat.reduceLT, Nat.reduceLeDiff, Int.reduceEq, Int.reduceLT, Int.reduceLE, Nat.reduceMul, eq_false h10, f_pa0]
   obtain ⟨h25, hg⟩ := guard_some hg
   refine AppE.goM (H0 := H0) (AV.int .u8) x2 ([IntKind.u8.wrap x1] : List Int) (n := 140737488355328) ty67 rfl ty5 rfl rfl (by decide) (.dl 1 [.int .u8 (IntKind.u8.wrap x1)] .full) (wkD.refl _) (srcA_dl ty67 rfl) (.inl rfl) h25 (by decide) (by decide) hE F6 ?_
   intro tl20 H21 hE F22 p23 q24 l9
   have f_pa0 := p23 _ _ (cnt _) f_pa0
   have hfo := hfo.app p23
   obtain ⟨hft, dt26⟩ := hft.app dt7 q24
   simp only [EVA, reduceIte, reduceCtorEq, Nat.reduceLT, Nat.reduceLeDiff, Int.reduceEq, Int.reduceLT, Int.reduceLE, Nat.reduceMul, eq_false h10, f_pa0]
   refine eop_store_go (H0 := H0) (id := pa0) (off := 0) (v := .dl 1 (List.map (AV.int .u8) (x2 ++ ([IntKind.u8.wrap x1] : List Int))) tl20) rfl rfl f_pa0 ty67 rfl rfl (Nat.le_of_ble_eq_true rfl) hE g_pa0 ?_
   intro H27 hE f9_pa0 p28 l9
   have F22 := F22.keep f_pa0 p28
   have hft := hft.keep f_pa0 p28
   have hfo := hfo.keep nf_pa0 p28
   have f_pa0 : H27[pa0]? = some (.cells ([.dl 1 (List.map (AV.int .u8) (x2 ++ ([IntKind.u8.wrap x1] : List Int))) tl20])) := f9_pa0
   simp only [EVA, reduceIte, reduceCtorEq, Nat.reduceLT, Nat.reduceLeDiff, Int.reduceEq, Int.reduceLT, Int.reduceLE, Nat.reduceMul, rs80, eq_false h10, f_pa0]
   obtain rfl := Option.some.inj hg
   obtain ⟨H29, wh9, hE, f9_pa0, p30, l9⟩ := wk_objE (cs' := [.dl 1 (List.map (AV.int .u8) (x2 ++ ([IntKind.u8.wrap x1] : List Int))) tl20]) f_pa0 (by repeat' first | exact Wk.nil | apply Wk.u | apply Wk.r) hE g_pa0
   have F22 := F22.keep f_pa0 p30
   have hft := hft.keep f_pa0 p30
   have hfo := hfo.keep nf_pa0 p30
   have f_pa0 := f9_pa0
   exact ⟨H29, wh9, (hK tl20 _ hE f_pa0 F22 dt26 hfo hft)⟩
/-- skymosaic/wire.zigzag -/
theorem rs82 : Tryz.f82.results.toList = [.tmp 2] := rfl
def g82 (n : Nat) (a0 : Int) : Option (Int) := some (bitsA .xor .u64 (IntKind.u64.wrap ((IntKind.u64.wrap a0) * 2)) (IntKind.u64.wrap (Int.fdiv a0 9223372036854775808)))
theorem c82 (B : Nat) (w0 : World) (n : Nat) (a0 : Int) (H : AHeap) (K : AV → AHeap → Prop) (r : (Int)) (hg : g82 n a0 = some r)  (hK : K (.int .u64 r) H) : ACall Tryz.prog B w0 82 [.int .i64 a0] H K := by
 unfold g82 at hg
 refine ACall.enter Tryz.func82 (by kernel_rfl) rfl (eawp_sound noY_sound _ _ _ _ ?_)
 have hE : Ext H H := Ext.refl H
 simp only [EVA, reduceIte, reduceCtorEq, Tryz.ntmps82, rs82, rs82]
 obtain rfl := Option.some.inj hg
 exact hK
/-- (*skymosaic/wire.Writer).Int -/
theorem rs49 : Tryz.f49.results.toList = [] := rfl
def g49 (n : Nat) (a0 : S5) (a1 : Int) : Option (S5) := (g82 n a1).bind fun v1 => (g80 n (⟨a0.c0⟩ : S5) v1).bind fun v3 => some (⟨v3.c0⟩ : S5)
theorem c49 (B : Nat) (w0 : World) (n : Nat) (a0 : S5) (a1 : Int) (ta0_0 : Tail) (pa0 : Nat) (fs : List (Nat × AObj)) (ts : List Tail) (H0 H : AHeap) (K : AV → AHeap → Prop) (r : (S5)) (hg : g49 n a0 a1 = some r) (hE : Ext H0 H) (g_pa0 : H0.length ≤ pa0) (f_pa0 : H[pa0]? = some (.cells ([.dl 1 (List.map (AV.int .u8) a0.c0) ta0_0]))) (nf_pa0 : Nf fs pa0) (F_ta0_0 : Free H0 H ta0_0) (dt_ta0_0 : Dt ta0_0 ts) (hfo : FrObj H fs) (hft : FrTl H0 H ts) (hK : ∀ (qo0_0 : Tail) (H' : AHeap), Ext H0 H' → H'[pa0]? = some (.cells ([.dl 1 (List.map (AV.int .u8) r.c0) qo0_0])) → Free H0 H' qo0_0 → Dt qo0_0 ts → FrObj H' fs → FrTl H0 H' ts → K (.tup []) H') : ACall Tryz.prog B w0 49 [.ptr pa0 0, .int .i64 a1] H K := by
 refine ACall.wkE ?_
 unfold g49 at hg
 refine ACall.enter Tryz.func49 (by kernel_rfl) rfl (eawp_sound noY_sound _ _ _ _ ?_)
 simp only [EVA, reduceIte, reduceCtorEq, Tryz.ntmps49, rs49, f_pa0]
 obtain ⟨v1, ch2, hg⟩ := bind_some hg
 refine ACall.wkA (args := [.int .i64 a1]) (c82 B w0 n a1 _ _ v1 ch2  ?_) (WkA.r WkA.nil)
 simp only [EVA, reduceIte, reduceCtorEq, f_pa0]
 obtain ⟨v3, ch4, hg⟩ := bind_some hg
 refine ACall.wkA (args := [.ptr pa0 0, .int .u64 v1]) (c80 B w0 n (⟨a0.c0⟩ : S5) v1 ta0_0 pa0 (fs) (ts) H0 _ _ v3 ch4 hE g_pa0 f_pa0 nf_pa0 F_ta0_0 dt_ta0_0 hfo hft ?_) (WkA.r (WkA.r WkA.nil))
 intro tl6 H5 hE f9_pa0 F7 dt8 hfo9 hft9
 have f_pa0 : H5[pa0]? = some (.cells ([.dl 1 (List.map (AV.int .u8) v3.c0) tl6])) := f9_pa0
 have hfo := hfo9
 have hft := hft9
 simp only [EVA, reduceIte, reduceCtorEq, rs49, f_pa0]
 obtain rfl := Option.some.inj hg
 obtain ⟨H9, wh9, hE, f9_pa0, p10, l9⟩ := wk_objE (cs' := [.dl 1 (List.map (AV.int .u8) v3.c0) tl6]) f_pa0 (by repeat' first | exact Wk.nil | apply Wk.u | apply Wk.r) hE g_pa0
 have F7 := F7.keep f_pa0 p10
 have hft := hft.keep f_pa0 p10
 have hfo := hfo.keep nf_pa0 p10
 have f_pa0 := f9_pa0
 exact ⟨H9, wh9, (hK tl6 _ hE f_pa0 F7 dt8 hfo hft)⟩
/-- (*skymosaic/wire.Writer).Done -/
theorem rs52 : Tryz.f52.results.toList = [.tmp 2] := rfl
def g52 (n : Nat) (a0 : S5) : Option (List Int) := (g57 n a0.c0).bind fun v1 => some v1
theorem c52 (B : Nat) (w0 : World) (n : Nat) (a0 : S5) (ta0_0 : Tail) (pa0 : Nat) (H : AHeap) (K : AV → AHeap → Prop) (r : (List Int)) (hg : g52 n a0 = some r) (f_pa0 : H[pa0]? = some (.cells ([.dl 1 (List.map (AV.int .u8) a0.c0) ta0_0]))) (hK : ∀ (q0 : Tail) (H' : AHeap), Ext H H' → Free H H' q0 → K (.dl 1 (List.map (AV.int .u8) r) q0) H') : ACall Tryz.prog B w0 52 [.ptr pa0 0] H K := by
 refine ACall.wkR ?_
 unfold g52 at hg
 refine ACall.enter Tryz.func52 (by kernel_rfl) rfl (eawp_sound noY_sound _ _ _ _ ?_)
 have hE : Ext H H := Ext.refl H
 simp only [EVA, reduceIte, reduceCtorEq, Tryz.ntmps52, rs52, f_pa0]
 obtain ⟨v1, ch2, hg⟩ := bind_some hg
 refine ACall.wkA (args := [.dl 1 (List.map (AV.int .u8) a0.c0) ta0_0]) (c57 B w0 n a0.c0 ta0_0 _ _ v1 ch2  ?_) (WkA.r WkA.nil)
 intro tl3 H4 x5 F6
 have F6 := F6.low hE
 have f_pa0 := x5.2 _ _ f_pa0
 have hE := hE.trans x5
 simp only [EVA, reduceIte, reduceCtorEq, rs52, f_pa0]
 obtain rfl := Option.some.inj hg
 exact ⟨_, (wkR.a (wkA.refl _)), (hK tl3 _ hE F6)⟩
/-- skymosaic/proof.put -/
def l81_0 (n : Nat) (a1 : List Int) : Nat → Int → List Int → Option (S5)
 | 0, _, _ => none
 | k10 + 1, x7, x8 => if x7 < (a1.length : Int) then (if (0 : Int) ≤ x7 ∧ x7 < (a1.length : Int) then ((g80 n (⟨x8⟩ : S5) (rd a1 x7)).bind fun v19 => (l81_0 n a1 k10) (IntKind.i64.wrap (x7 + 1)) v19.c0) else none) else (some (⟨x8⟩ : S5))
theorem rs81 : Tryz.f81.results.toList = [] := rfl
def g81 (n : Nat) (a0 : S5) (a1 : List Int) : Option (S5) := (g49 n (⟨a0.c0⟩ : S5) (a1.length : Int)).bind fun v1 => l81_0 n a1 n 0 v1.c0
theorem c81 (B : Nat) (w0 : World) (n : Nat) (a0 : S5) (a1 : List Int) (ta1 : Tail) (ta0_0 : Tail) (pa0 : Nat) (fs : List (Nat × AObj)) (ts : List Tail) (H0 H : AHeap) (K : AV → AHeap → Prop) (r : (S5)) (hg : g81 n a0 a1 = some r) (hE : Ext H0 H) (g_pa0 : H0.length ≤ pa0) (f_pa0 : H[pa0]? = some (.cells ([.dl 1 (List.map (AV.int .u8) a0.c0) ta0_0]))) (nf_pa0 : Nf fs pa0) (F_ta0_0 : Free H0 H ta0_0) (dt_ta0_0 : Dt ta0_0 ts) (hfo : FrObj H fs) (hft : FrTl H0 H ts) (hK : ∀ (qo0_0 : Tail) (H' : AHeap), Ext H0 H' → H'[pa0]? = some (.cells ([.dl 1 (List.map (AV.int .u8) r.c0) qo0_0])) → Free H0 H' qo0_0 → Dt qo0_0 ts → FrObj H' fs → FrTl H0 H' ts → K (.tup []) H') : ACall Tryz.prog B w0 81 [.ptr pa0 0, .dl 1 (List.map (AV.int .u64) a1) ta1] H K := by
 refine ACall.wkE ?_
 unfold g81 at hg
 refine ACall.enter Tryz.func81 (by kernel_rfl) rfl (eawp_sound noY_sound _ _ _ _ ?_)
 simp only [EVA, reduceIte, reduceCtorEq, Tryz.ntmps81, rs81, f_pa0, (show IntKind.i64.wrap 1 = 1 from rfl)]
 obtain ⟨v1, ch2, hg⟩ := bind_some hg
 refine ACall.wkA (args := [.ptr pa0 0, .int .i64 (a1.length : Int)]) (c49 B w0 n (⟨a0.c0⟩ : S5) (a1.length : Int) ta0_0 pa0 (fs) (ts) H0 _ _ v1 ch2 hE g_pa0 f_pa0 nf_pa0 F_ta0_0 dt_ta0_0 hfo hft ?_) (WkA.r (WkA.r WkA.nil))
 intro tl4 H3 hE f9_pa0 F5 dt6 hfo9 hft9
 have f_pa0 : H3[pa0]? = some (.cells ([.dl 1 (List.map (AV.int .u8) v1.c0) tl4])) := f9_pa0
 have hfo := hfo9
 have hft := hft9
 simp only [EVA, reduceIte, reduceCtorEq, f_pa0, (show IntKind.i64.wrap 1 = 1 from rfl)]
 refine AWP.loop (σ := Nat × Int × List Int × Tail) (fun s => [.ptr pa0 0, .undef, .undef, .undef, .undef, .undef, .undef, .undef, .undef, .undef, .dl 1 (List.map (AV.int .u64) a1) ta1, .int .i64 (a1.length : Int), .int .i64 s.2.1, .undef, .undef, .undef, .undef, .undef, .undef, .undef]) (fun s H' => l81_0 n a1 s.1 s.2.1 s.2.2.1 = some r ∧ Ext H0 H' ∧ ObjW H' pa0 ([.dl 1 (List.map (AV.int .u8) s.2.2.1) s.2.2.2]) ∧ Free H0 H' s.2.2.2 ∧ FrObj H' fs ∧ FrTl H0 H' ts ∧ Dt s.2.2.2 ts) (fun s => s.1) ⟨⟨n, 0, v1.c0, tl4⟩, (by repeat' first | exact Wk.nil | apply Wk.u | apply Wk.r), ⟨hg, hE, ⟨_, f_pa0, (by repeat' first | exact Wk.nil | apply Wk.u | apply Wk.r)⟩, F5, hfo, hft, dt6⟩⟩ ?_
 rintro ⟨k10, x7, x8, tl9⟩ H11 ⟨hg, hE, f_pa0, F12, hfo, hft, dt13⟩ _
 try dsimp only at hg f_pa0 F12 dt13
 cases k10 with
 | zero => simp only [l81_0, reduceCtorEq] at hg
 | succ k10 =>
  rw [l81_0] at hg
  obtain ⟨cs_pa0, f_pa0, w_pa0⟩ := f_pa0
  refine AWP.wkGo (H0 := H0) f_pa0 w_pa0 hE g_pa0 ?_
  intro H14 hE f9_pa0 p15 l9
  have F12 := F12.keep f_pa0 p15
  have hft := hft.keep f_pa0 p15
  have hfo := hfo.keep nf_pa0 p15
  have f_pa0 : H14[pa0]? = some (.cells ([.dl 1 (List.map (AV.int .u8) x8) tl9])) := f9_pa0
  refine eawp_sound noY_sound _ _ _ _ ?_
  simp only [EVA, reduceIte, reduceCtorEq, f_pa0, (show IntKind.i64.wrap 1 = 1 from rfl)]
  rcases ite_some hg with ⟨h16, hg⟩ | ⟨h16, hg⟩
  ·refine Br.yes h16 ?_
   obtain ⟨h17, hg⟩ := guard_some hg
   have q18 : List.getD (List.map (AV.int .u64) a1) (Int.toNat x7) AV.undef = (AV.int .u64) (rd a1 x7) := rd_map (l := a1) (i := x7) (AV.int .u64) h17
   simp only [EVA, reduceIte, reduceCtorEq, eq_true h16, eq_true h17.1, eq_true h17.2, q18, f_pa0, (show IntKind.i64.wrap 1 = 1 from rfl)]
   obtain ⟨v19, ch20, hg⟩ := bind_some hg
   refine ACall.wkA (args := [.ptr pa0 0, .int .u64 (rd a1 x7)]) (c80 B w0 n (⟨x8⟩ : S5) (rd a1 x7) tl9 pa0 (fs) (ts) H0 _ _ v19 ch20 hE g_pa0 f_pa0 nf_pa0 F12 dt13 hfo hft ?_) (WkA.r (WkA.r WkA.nil))
   intro tl22 H21 hE f9_pa0 F23 dt24 hfo9 hft9
   have f_pa0 : H21[pa0]? = some (.cells ([.dl 1 (List.map (AV.int .u8) v19.c0) tl22])) := f9_pa0
   have hfo := hfo9
   have hft := hft9
   simp only [EVA, reduceIte, reduceCtorEq, eq_true h16, eq_true h17.1, eq_true h17.2, q18, f_pa0, (show IntKind.i64.wrap 1 = 1 from rfl)]
   exact ⟨⟨k10, IntKind.i64.wrap (x7 + 1), v19.c0, tl22⟩, (by repeat' first | exact Wk.nil | apply Wk.u | apply Wk.r), ⟨hg, hE, ⟨_, f_pa0, (by repeat' first | exact Wk.nil | apply Wk.u | apply Wk.r)⟩, F23, hfo, hft, dt24⟩, Nat.lt_succ_self _⟩
  ·refine Br.no h16 ?_
   simp only [EVA, reduceIte, reduceCtorEq, rs81, eq_false h16, f_pa0, (show IntKind.i64.wrap 1 = 1 from rfl)]
   obtain rfl := Option.some.inj hg
   obtain ⟨H25, wh9, hE, f9_pa0, p26, l9⟩ := wk_objE (cs' := [.dl 1 (List.map (AV.int .u8) x8) tl9]) f_pa0 (by repeat' first | exact Wk.nil | apply Wk.u | apply Wk.r) hE g_pa0
   have F12 := F12.keep f_pa0 p26
   have hft := hft.keep f_pa0 p26
   have hfo := hfo.keep nf_pa0 p26
   have f_pa0 := f9_pa0
   exact ⟨H25, wh9, (hK tl9 _ hE f_pa0 F12 dt13 hfo hft)⟩
end Go.Av
end
