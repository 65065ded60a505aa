/- the walks, part 6 -/
import Derived.Test.YtcgndadlcgnilaaGreatA28
import Derived.Test.YtcgndadlcgnilaaGreatW4
import Derived.Test.YtcgndadlcgnilaaGreatW5
set_option autoImplicit false
set_option linter.unusedSimpArgs false
set_option linter.unusedVariables false
set_option linter.unnecessarySimpa false
section
set_option maxHeartbeats 1000000
set_option maxRecDepth 10000
namespace Go.Av
open Go.Proofs
/-- slices.ContainsFunc[[]uint64,uint64] -/
theorem rs68_0 : Tryz.f68.results.toList = [.tmp 4] := rfl
def g68_0 (n : Nat) (a0 : List Int) (a1c0 : S1) : Option (Bool) := (g94_0 n a0 (⟨a1c0.c0, a1c0.c1, a1c0.c2, a1c0.c3, a1c0.c4, a1c0.c5, a1c0.c6⟩ : S1)).bind fun v1 => some (decide (0 ≤ v1))
theorem c68_0 (B : Nat) (w0 : World) (n : Nat) (a0 : List Int) (a1c0 : S1) (ta0 : Tail) (pa1c0 : Nat) (H : AHeap) (K : AV → AHeap → Prop) (r : (Bool)) (hg : g68_0 n a0 a1c0 = some r) (f_pa1c0 : H[pa1c0]? = some (.cells ([.int .i64 a1c0.c0, .int .i64 a1c0.c1, .int .i64 a1c0.c2, .int .u64 a1c0.c3, .dl 1 (List.map (AV.int .u64) a1c0.c4) .none, .dl 1 (List.map (AV.int .u64) a1c0.c5) .none, .int .u64 a1c0.c6]))) (hK : ∀ (H' : AHeap), Ext H H' → K (.bool r) H') : ACall Tryz.prog B w0 68 [.dl 1 (List.map (AV.int .u64) a0) ta0, .fn (.func 69) [] [.ptr pa1c0 0]] H K := by
 unfold g68_0 at hg
 refine ACall.enter Tryz.func68 (by kernel_rfl) rfl (eawp_sound noY_sound _ _ _ _ ?_)
 have hE : Ext H H := Ext.refl H
 simp only [EVA, reduceIte, reduceCtorEq, Tryz.ntmps68, rs68_0, f_pa1c0]
 obtain ⟨v1, ch2, hg⟩ := bind_some hg
 refine ACall.wkA (args := [.dl 1 (List.map (AV.int .u64) a0) ta0, .fn (.func 69) [] [.ptr pa1c0 0]]) (c94_0 B w0 n a0 (⟨a1c0.c0, a1c0.c1, a1c0.c2, a1c0.c3, a1c0.c4, a1c0.c5, a1c0.c6⟩ : S1) ta0 pa1c0 _ _ v1 ch2 f_pa1c0 ?_) (WkA.r (WkA.r WkA.nil))
 intro H3 x4
 have f_pa1c0 := x4.2 _ _ f_pa1c0
 have hE := hE.trans x4
 simp only [EVA, reduceIte, reduceCtorEq, rs68_0, f_pa1c0]
 obtain rfl := Option.some.inj hg
 exact (hK  _ hE )
/-- skymosaic/withdraw.named -/
def l35_0 (n : Nat) (a1 : List Int) (v1 : (List S1)) : Nat → Int → Option (Bool)
 | 0, _ => none
 | k8 + 1, x7 => if x7 < (v1.length : Int) then (if (0 : Int) ≤ x7 ∧ x7 < (v1.length : Int) then ((g68_0 n a1 (⟨(rd v1 x7).c0, (rd v1 x7).c1, (rd v1 x7).c2, (rd v1 x7).c3, (rd v1 x7).c4, (rd v1 x7).c5, (rd v1 x7).c6⟩ : S1)).bind fun v18 => if v18 = true then (some true) else ((l35_0 n a1 v1 k8) (IntKind.i64.wrap (x7 + 1)))) else none) else (some false)
theorem rs35 : Tryz.f35.results.toList = [.tmp 4] := rfl
def g35 (n : Nat) (a0 : List (List S1)) (a1 : List Int) : Option (Bool) := (g67 n a0).bind fun v1 => l35_0 n a1 v1 n 0
theorem c35 (B : Nat) (w0 : World) (n : Nat) (a0 : List (List S1)) (a1 : List Int) (ta0 : Tail) (ta1 : Tail) (H : AHeap) (K : AV → AHeap → Prop) (r : (Bool)) (hg : g35 n a0 a1 = some r)  (hK : ∀ (H' : AHeap), Ext H H' → K (.bool r) H') : ACall Tryz.prog B w0 35 [.dl 1 (List.map encL3 a0) ta0, .dl 1 (List.map (AV.int .u64) a1) ta1] H K := by
 unfold g35 at hg
 refine ACall.enter Tryz.func35 (by kernel_rfl) rfl (eawp_sound noY_sound _ _ _ _ ?_)
 have hE : Ext H H := Ext.refl H
 simp only [EVA, reduceIte, reduceCtorEq, Tryz.ntmps35, rs35, (show IntKind.i64.wrap 1 = 1 from rfl)]
 obtain ⟨v1, ch2, hg⟩ := bind_some hg
 refine ACall.wkA (args := [.dl 1 (List.map encL3 a0) ta0]) (c67 B w0 n a0 ta0 _ _ v1 ch2  ?_) (WkA.r WkA.nil)
 intro tl3 H4 x5 F6
 have F6 := F6.low hE
 have hE := hE.trans x5
 simp only [EVA, reduceIte, reduceCtorEq, (show IntKind.i64.wrap 1 = 1 from rfl)]
 refine AWP.loop (σ := Nat × Int) (fun s => [.undef, .dl 1 (List.map (AV.int .u64) a1) ta1, .undef, .undef, .undef, .undef, .undef, .undef, .dl 7 (List.map encS1 v1) tl3, .int .i64 (v1.length : Int), .int .i64 s.2, .undef, .undef, .undef, .undef, .undef, .undef, .undef]) (fun s H' => l35_0 n a1 v1 s.1 s.2 = some r ∧ Ext H H' ∧ Free H H' tl3) (fun s => s.1) ⟨⟨n, 0⟩, (by repeat' first | exact Wk.nil | apply Wk.u | apply Wk.r), ⟨hg, hE, F6⟩⟩ ?_
 rintro ⟨k8, x7⟩ H9 ⟨hg, hE, F10⟩ _
 try dsimp only at hg F10
 cases k8 with
 | zero => simp only [l35_0, reduceCtorEq] at hg
 | succ k8 =>
  rw [l35_0] at hg
  refine eawp_sound noY_sound _ _ _ _ ?_
  simp only [EVA, reduceIte, reduceCtorEq, (show IntKind.i64.wrap 1 = 1 from rfl)]
  rcases ite_some hg with ⟨h11, hg⟩ | ⟨h11, hg⟩
  ·refine Br.yes h11 ?_
   obtain ⟨h12, hg⟩ := guard_some hg
   have q13 : List.getD (List.map encS1 v1) (Int.toNat x7) AV.undef = encS1 (rd v1 x7) := rd_map (l := v1) (i := x7) encS1 h12
   simp only [EVA, reduceIte, reduceCtorEq, eq_true h11, eq_true h12.1, eq_true h12.2, q13, (show IntKind.i64.wrap 1 = 1 from rfl)]
   refine eop_alloc_go (H0 := H) ty64 rfl rfl hE ?_
   intro o14 H15 hE xo14 g_o14 f_o14 n_o14
   have F10 := F10.mono xo14
   have f_o14 : H15[o14]? = some (.cells ([.int .i64 0, .int .i64 0, .int .i64 0, .int .u64 0, .dl 0 [] .full, .dl 0 [] .full, .int .u64 0])) := f_o14
   simp only [EVA, reduceIte, reduceCtorEq, eq_true h11, eq_true h12.1, eq_true h12.2, q13, f_o14, (show IntKind.i64.wrap 1 = 1 from rfl)]
   refine eop_store_go (H0 := H) (id := o14) (off := 0) (v := .agg [.int .i64 ((rd v1 x7).c0), .int .i64 ((rd v1 x7).c1), .int .i64 ((rd v1 x7).c2), .int .u64 ((rd v1 x7).c3), .dl 1 (List.map (AV.int .u64) ((rd v1 x7).c4)) .none, .dl 1 (List.map (AV.int .u64) ((rd v1 x7).c5)) .none, .int .u64 ((rd v1 x7).c6)]) rfl rfl f_o14 ty64 rfl rfl (Nat.le_of_ble_eq_true rfl) hE g_o14 ?_
   intro H16 hE f9_o14 p17 l9
   have F10 := F10.keep f_o14 p17
   have f_o14 : H16[o14]? = some (.cells ([.int .i64 ((rd v1 x7).c0), .int .i64 ((rd v1 x7).c1), .int .i64 ((rd v1 x7).c2), .int .u64 ((rd v1 x7).c3), .dl 1 (List.map (AV.int .u64) ((rd v1 x7).c4)) .none, .dl 1 (List.map (AV.int .u64) ((rd v1 x7).c5)) .none, .int .u64 ((rd v1 x7).c6)])) := f9_o14
   simp only [EVA, reduceIte, reduceCtorEq, eq_true h11, eq_true h12.1, eq_true h12.2, q13, f_o14, (show IntKind.i64.wrap 1 = 1 from rfl)]
   obtain ⟨v18, ch19, hg⟩ := bind_some hg
   refine ACall.wkA (args := [.dl 1 (List.map (AV.int .u64) a1) ta1, .fn (.func 69) [] [.ptr o14 0]]) (c68_0 B w0 n a1 (⟨(rd v1 x7).c0, (rd v1 x7).c1, (rd v1 x7).c2, (rd v1 x7).c3, (rd v1 x7).c4, (rd v1 x7).c5, (rd v1 x7).c6⟩ : S1) ta1 o14 _ _ v18 ch19 f_o14 ?_) (WkA.r (WkA.r WkA.nil))
   intro H20 x21
   have F10 := F10.mono x21
   have f_o14 := x21.2 _ _ f_o14
   have hE := hE.trans x21
   rcases ite_some hg with ⟨h22, hg⟩ | ⟨h22, hg⟩
   ·simp only [EVA, reduceIte, reduceCtorEq, rs35, eq_true h11, eq_true h12.1, eq_true h12.2, q13, h22, f_o14, (show IntKind.i64.wrap 1 = 1 from rfl)]
    obtain rfl := Option.some.inj hg
    exact (hK  _ hE )
   ·have h22 := Bool.eq_false_iff.2 h22
    simp only [EVA, reduceIte, reduceCtorEq, eq_true h11, eq_true h12.1, eq_true h12.2, q13, h22, f_o14, (show IntKind.i64.wrap 1 = 1 from rfl)]
    exact ⟨⟨k8, IntKind.i64.wrap (x7 + 1)⟩, (by repeat' first | exact Wk.nil | apply Wk.u | apply Wk.r), ⟨hg, hE, F10⟩, Nat.lt_succ_self _⟩
  ·refine Br.no h11 ?_
   simp only [EVA, reduceIte, reduceCtorEq, rs35, eq_false h11, (show IntKind.i64.wrap 1 = 1 from rfl)]
   obtain rfl := Option.some.inj hg
   exact (hK  _ hE )
/-- skymosaic/withdraw.Make -/
def l11_0 (n : Nat) (a0 : Int) (a1 : Int) (a2 : List S6) (a3 : List S6) (a4 : List Int) (a5 : List (List S1)) (v11 : (List Int)) : Nat → Int → List Int → List Int → List Int → List Int → Option (S8 × Int)
 | 0, _, _, _, _, _ => none
 | k28 + 1, x19, x20, x22, x24, x26 => if x19 < (a2.length : Int) then (if (0 : Int) ≤ x19 ∧ x19 < (a2.length : Int) then (if (0 : Int) ≤ x19 ∧ x19 < (a3.length : Int) then (if (rd a2 x19).c7 = true then (if (rd a3 x19).c7 = true then (some ((⟨0, 0, ([] : List Int), ([] : List Int), ([] : List Int), ([] : List Int), ([] : List Int)⟩ : S8), 1)) else (if ((rd a2 x19).c2) = ((rd a3 x19).c2) then (if ((rd a2 x19).c3) = ((rd a3 x19).c3) then (if ((rd a2 x19).c5) = ((rd a3 x19).c5) then (if ((rd a3 x19).c4) = a1 then (if x20.length + 1 ≤ 17592186044416 then (if x22.length + 1 ≤ 17592186044416 then (if (0 : Int) ≤ x19 ∧ x19 < (a5.length : Int) then (if x24.length + 1 ≤ 17592186044416 then ((g23 n (rd a5 x19)).bind fun v96 => if x26.length + 1 ≤ 17592186044416 then ((l11_0 n a0 a1 a2 a3 a4 a5 v11 k28) (IntKind.i64.wrap (x19 + 1)) (x20 ++ ([(rd a2 x19).c0] : List Int)) (x22 ++ ([(rd a3 x19).c0] : List Int)) (x24 ++ ([(rd a3 x19).c6] : List Int)) (x26 ++ ([v96] : List Int))) else none) else none) else none) else none) else none) else (some ((⟨0, 0, ([] : List Int), ([] : List Int), ([] : List Int), ([] : List Int), ([] : List Int)⟩ : S8), 1))) else (some ((⟨0, 0, ([] : List Int), ([] : List Int), ([] : List Int), ([] : List Int), ([] : List Int)⟩ : S8), 1))) else (some ((⟨0, 0, ([] : List Int), ([] : List Int), ([] : List Int), ([] : List Int), ([] : List Int)⟩ : S8), 1))) else (some ((⟨0, 0, ([] : List Int), ([] : List Int), ([] : List Int), ([] : List Int), ([] : List Int)⟩ : S8), 1)))) else (some ((⟨0, 0, ([] : List Int), ([] : List Int), ([] : List Int), ([] : List Int), ([] : List Int)⟩ : S8), 1))) else none) else none) else ((g34 n x20).bind fun v123 => if v123 = true then ((g34 n x22).bind fun v128 => if v128 = true then ((g35 n a5 a4).bind fun v133 => if v133 = true then (some ((⟨0, 0, ([] : List Int), ([] : List Int), ([] : List Int), ([] : List Int), ([] : List Int)⟩ : S8), 17)) else (some ((⟨a0, a1, x20, x22, v11, x24, x26⟩ : S8), 0))) else (some ((⟨0, 0, ([] : List Int), ([] : List Int), ([] : List Int), ([] : List Int), ([] : List Int)⟩ : S8), 1))) else (some ((⟨0, 0, ([] : List Int), ([] : List Int), ([] : List Int), ([] : List Int), ([] : List Int)⟩ : S8), 1)))
theorem rs11 : Tryz.f11.results.toList = [.cell 12 33, .tmp 13] := rfl
def g11 (n : Nat) (a0 : Int) (a1 : Int) (a2 : List S6) (a3 : List S6) (a4 : List Int) (a5 : List (List S1)) : Option (S8 × Int) := (g32 n a0 a1).bind fun v3 => if v3 = true then (if (a3.length : Int) = (a2.length : Int) then (if (a5.length : Int) = (a2.length : Int) then (if 1024 < (a2.length : Int) then (some ((⟨0, 0, ([] : List Int), ([] : List Int), ([] : List Int), ([] : List Int), ([] : List Int)⟩ : S8), 1)) else ((g33 n a4).bind fun v11 => l11_0 n a0 a1 a2 a3 a4 a5 v11 n 0 ([] : List Int) ([] : List Int) ([] : List Int) ([] : List Int))) else (some ((⟨0, 0, ([] : List Int), ([] : List Int), ([] : List Int), ([] : List Int), ([] : List Int)⟩ : S8), 1))) else (some ((⟨0, 0, ([] : List Int), ([] : List Int), ([] : List Int), ([] : List Int), ([] : List Int)⟩ : S8), 1))) else (some ((⟨0, 0, ([] : List Int), ([] : List Int), ([] : List Int), ([] : List Int), ([] : List Int)⟩ : S8), 1))
theorem c11 (B : Nat) (w0 : World) (n : Nat) (a0 : Int) (a1 : Int) (a2 : List S6) (a3 : List S6) (a4 : List Int) (a5 : List (List S1)) (ta2 : Tail) (ta3 : Tail) (ta4 : Tail) (ta5 : Tail) (H : AHeap) (K : AV → AHeap → Prop) (r : (S8 × Int)) (hg : g11 n a0 a1 a2 a3 a4 a5 = some r)  (hK : ∀ (H' : AHeap), Ext H H' → K (.tup [.agg [.int .i64 r.1.c0, .int .i64 r.1.c1, .dl 1 (List.map (AV.int .i64) r.1.c2) .none, .dl 1 (List.map (AV.int .i64) r.1.c3) .none, .dl 1 (List.map (AV.int .u64) r.1.c4) .none, .dl 1 (List.map (AV.int .u64) r.1.c5) .none, .dl 1 (List.map (AV.int .u64) r.1.c6) .none], .int .i64 r.2]) H') : ACall Tryz.prog B w0 11 [.int .i64 a0, .int .i64 a1, .dl 8 (List.map encS6 a2) ta2, .dl 8 (List.map encS6 a3) ta3, .dl 1 (List.map (AV.int .u64) a4) ta4, .dl 1 (List.map encL3 a5) ta5] H K := by
 refine ACall.wkR ?_
 unfold g11 at hg
 refine ACall.enter Tryz.func11 (by kernel_rfl) rfl (eawp_sound noY_sound _ _ _ _ ?_)
 have hE : Ext H H := Ext.refl H
 simp only [EVA, reduceIte, reduceCtorEq, Nat.reduceLT, Nat.reduceLeDiff, Int.reduceEq, Int.reduceLT, Int.reduceLE, Nat.reduceMul, Tryz.ntmps11, rs11, (show IntKind.i64.wrap 1 = 1 from rfl)]
 refine eop_alloc_go (H0 := H) ty33 rfl rfl hE ?_
 intro o1 H2 hE xo1 g_o1 f_o1 n_o1
 have f_o1 : H2[o1]? = some (.cells ([.int .i64 0, .int .i64 0, .dl 0 [] .full, .dl 0 [] .full, .dl 0 [] .full, .dl 0 [] .full, .dl 0 [] .full])) := f_o1
 simp only [EVA, reduceIte, reduceCtorEq, Nat.reduceLT, Nat.reduceLeDiff, Int.reduceEq, Int.reduceLT, Int.reduceLE, Nat.reduceMul, f_o1, (show IntKind.i64.wrap 1 = 1 from rfl)]
 obtain ⟨v3, ch4, hg⟩ := bind_some hg
 refine ACall.wkA (args := [.int .i64 a0, .int .i64 a1]) (c32 B w0 n a0 a1 _ _ v3 ch4  ?_) (WkA.r (WkA.r WkA.nil))
 rcases ite_some hg with ⟨h5, hg⟩ | ⟨h5, hg⟩
 ·simp only [EVA, reduceIte, reduceCtorEq, Nat.reduceLT, Nat.reduceLeDiff, Int.reduceEq, Int.reduceLT, Int.reduceLE, Nat.reduceMul, h5, f_o1, (show IntKind.i64.wrap 1 = 1 from rfl)]
  rcases ite_some hg with ⟨h6, hg⟩ | ⟨h6, hg⟩
  ·refine Br.yes h6 ?_
   simp only [EVA, reduceIte, reduceCtorEq, Nat.reduceLT, Nat.reduceLeDiff, Int.reduceEq, Int.reduceLT, Int.reduceLE, Nat.reduceMul, h5, eq_true h6, f_o1, (show IntKind.i64.wrap 1 = 1 from rfl)]
   rcases ite_some hg with ⟨h7, hg⟩ | ⟨h7, hg⟩
   ·refine Br.yes h7 ?_
    simp only [EVA, reduceIte, reduceCtorEq, Nat.reduceLT, Nat.reduceLeDiff, Int.reduceEq, Int.reduceLT, Int.reduceLE, Nat.reduceMul, h5, eq_true h6, eq_true h7, f_o1, (show IntKind.i64.wrap 1 = 1 from rfl)]
    rcases ite_some hg with ⟨h8, hg⟩ | ⟨h8, hg⟩
    ·refine Br.yes h8 ?_
     simp only [EVA, reduceIte, reduceCtorEq, Nat.reduceLT, Nat.reduceLeDiff, Int.reduceEq, Int.reduceLT, Int.reduceLE, Nat.reduceMul, h5, eq_true h6, eq_true h7, eq_true h8, f_o1, (show IntKind.i64.wrap 1 = 1 from rfl)]
     refine eop_store_go (H0 := H) (id := o1) (off := 0) (v := .agg [.int .i64 0, .int .i64 0, .dl 0 [] .full, .dl 0 [] .full, .dl 0 [] .full, .dl 0 [] .full, .dl 0 [] .full]) rfl rfl f_o1 ty33 rfl rfl (Nat.le_of_ble_eq_true rfl) hE g_o1 ?_
     intro H9 hE f9_o1 p10 l9
     have f_o1 : H9[o1]? = some (.cells ([.int .i64 0, .int .i64 0, .dl 0 [] .full, .dl 0 [] .full, .dl 0 [] .full, .dl 0 [] .full, .dl 0 [] .full])) := f9_o1
     simp only [EVA, reduceIte, reduceCtorEq, Nat.reduceLT, Nat.reduceLeDiff, Int.reduceEq, Int.reduceLT, Int.reduceLE, Nat.reduceMul, rs11, h5, eq_true h6, eq_true h7, eq_true h8, f_o1, (show IntKind.i64.wrap 1 = 1 from rfl)]
     obtain rfl := Option.some.inj hg
     exact ⟨_, (wkR.tup (WkA.cons (wkA.agg (by repeat' first | exact Wk.nil | apply Wk.u | apply Wk.r | apply Wk.cons (wkV.nil _ _ _))) (WkA.r WkA.nil))), (hK  _ hE )⟩
    ·refine Br.no h8 ?_
     simp only [EVA, reduceIte, reduceCtorEq, Nat.reduceLT, Nat.reduceLeDiff, Int.reduceEq, Int.reduceLT, Int.reduceLE, Nat.reduceMul, h5, eq_true h6, eq_true h7, eq_false h8, f_o1, (show IntKind.i64.wrap 1 = 1 from rfl)]
     obtain ⟨v11, ch12, hg⟩ := bind_some hg
     refine ACall.wkA (args := [.dl 1 (List.map (AV.int .u64) a4) ta4]) (c33 B w0 n a4 ta4 _ _ v11 ch12  ?_) (WkA.r WkA.nil)
     intro H13 x14
     have f_o1 := x14.2 _ _ f_o1
     have hE := hE.trans x14
     simp only [EVA, reduceIte, reduceCtorEq, Nat.reduceLT, Nat.reduceLeDiff, Int.reduceEq, Int.reduceLT, Int.reduceLE, Nat.reduceMul, h5, eq_true h6, eq_true h7, eq_false h8, f_o1, (show IntKind.i64.wrap 1 = 1 from rfl)]
     refine eop_alloc_go (H0 := H) ty33 rfl rfl hE ?_
     intro o15 H16 hE xo15 g_o15 f_o15 n_o15
     have ne_o1_o15 := n_o15 _ _ f_o1
     have f_o1 := xo15.2 _ _ f_o1
     have f_o15 : H16[o15]? = some (.cells ([.int .i64 0, .int .i64 0, .dl 0 [] .full, .dl 0 [] .full, .dl 0 [] .full, .dl 0 [] .full, .dl 0 [] .full])) := f_o15
     simp only [EVA, reduceIte, reduceCtorEq, Nat.reduceLT, Nat.reduceLeDiff, Int.reduceEq, Int.reduceLT, Int.reduceLE, Nat.reduceMul, h5, eq_true h6, eq_true h7, eq_false h8, f_o1, f_o15, (show IntKind.i64.wrap 1 = 1 from rfl)]
     refine eop_store_go (H0 := H) (id := o15) (off := 0) (v := .agg [.int .i64 a0, .int .i64 a1, .dl 0 [] .full, .dl 0 [] .full, .dl 1 (List.map (AV.int .u64) v11) .none, .dl 0 [] .full, .dl 0 [] .full]) rfl rfl f_o15 ty33 rfl rfl (Nat.le_of_ble_eq_true rfl) hE g_o15 ?_
     intro H17 hE f9_o15 p18 l9
     have f_o1 := p18 _ _ ne_o1_o15 f_o1
     have f_o15 : H17[o15]? = some (.cells ([.int .i64 a0, .int .i64 a1, .dl 0 [] .full, .dl 0 [] .full, .dl 1 (List.map (AV.int .u64) v11) .none, .dl 0 [] .full, .dl 0 [] .full])) := f9_o15
     simp only [EVA, reduceIte, reduceCtorEq, Nat.reduceLT, Nat.reduceLeDiff, Int.reduceEq, Int.reduceLT, Int.reduceLE, Nat.reduceMul, h5, eq_true h6, eq_true h7, eq_false h8, f_o1, f_o15, (show IntKind.i64.wrap 1 = 1 from rfl)]
     refine AWP.loop (σ := Nat × Int × List Int × List Int × List Int × List Int × Tail × Tail × Tail × Tail) (fun s => [.undef, .int .i64 a1, .undef, .dl 8 (List.map encS6 a3) ta3, .dl 1 (List.map (AV.int .u64) a4) ta4, .dl 1 (List.map encL3 a5) ta5, .undef, .undef, .undef, .undef, .undef, .undef, .ptr o1 0, .undef, .undef, .ptr o15 0, .undef, .undef, .undef, .undef, .undef, .undef, .undef, .undef, .undef, .undef, .undef, .undef, .undef, .undef, .undef, .undef, .undef, .undef, .undef, .undef, .undef, .undef, .undef, .undef, .undef, .undef, .undef, .undef, .undef, .undef, .undef, .dl 8 (List.map encS6 a2) ta2, .int .i64 (a2.length : Int), .int .i64 s.2.1, .undef, .undef, .undef, .undef, .undef, .undef, .undef, .undef, .undef, .undef, .undef, .undef, .undef, .undef, .undef, .undef, .undef, .undef, .undef, .undef, .undef, .undef, .undef, .undef, .undef, .undef, .undef, .undef, .undef, .undef, .undef, .undef, .undef, .undef, .undef, .undef, .undef, .undef, .undef, .undef, .undef, .undef, .undef, .undef, .undef, .undef, .undef, .undef, .undef, .undef, .undef, .undef, .undef, .undef, .undef, .undef, .undef, .undef, .undef, .undef, .undef, .undef, .undef, .undef, .undef, .undef, .undef, .undef, .undef, .undef, .undef, .undef, .undef, .undef, .undef, .undef, .undef, .undef, .undef, .undef, .undef, .undef, .undef, .undef, .undef, .undef, .undef, .undef, .undef, .undef, .undef, .undef, .undef]) (fun s H' => l11_0 n a0 a1 a2 a3 a4 a5 v11 s.1 s.2.1 s.2.2.1 s.2.2.2.1 s.2.2.2.2.1 s.2.2.2.2.2.1 = some r ∧ Ext H H' ∧ ObjAt H' o1 ([.int .i64 0, .int .i64 0, .dl 0 [] .full, .dl 0 [] .full, .dl 0 [] .full, .dl 0 [] .full, .dl 0 [] .full]) ∧ ObjW H' o15 ([.int .i64 a0, .int .i64 a1, .dl 1 (List.map (AV.int .i64) s.2.2.1) s.2.2.2.2.2.2.1, .dl 1 (List.map (AV.int .i64) s.2.2.2.1) s.2.2.2.2.2.2.2.1, .dl 1 (List.map (AV.int .u64) v11) .none, .dl 1 (List.map (AV.int .u64) s.2.2.2.2.1) s.2.2.2.2.2.2.2.2.1, .dl 1 (List.map (AV.int .u64) s.2.2.2.2.2.1) s.2.2.2.2.2.2.2.2.2]) ∧ Free H H' s.2.2.2.2.2.2.1 ∧ Free H H' s.2.2.2.2.2.2.2.1 ∧ Free H H' s.2.2.2.2.2.2.2.2.1 ∧ Free H H' s.2.2.2.2.2.2.2.2.2 ∧ tlNe s.2.2.2.2.2.2.1 s.2.2.2.2.2.2.2.1 ∧ tlNe s.2.2.2.2.2.2.1 s.2.2.2.2.2.2.2.2.1 ∧ tlNe s.2.2.2.2.2.2.1 s.2.2.2.2.2.2.2.2.2 ∧ tlNe s.2.2.2.2.2.2.2.1 s.2.2.2.2.2.2.2.2.1 ∧ tlNe s.2.2.2.2.2.2.2.1 s.2.2.2.2.2.2.2.2.2 ∧ tlNe s.2.2.2.2.2.2.2.2.1 s.2.2.2.2.2.2.2.2.2) (fun s => s.1) ⟨⟨n, 0, ([] : List Int), ([] : List Int), ([] : List Int), ([] : List Int), .full, .full, .full, .full⟩, (by repeat' first | exact Wk.nil | apply Wk.u | apply Wk.r), ⟨hg, hE, f_o1, ⟨_, f_o15, (by repeat' first | exact Wk.nil | apply Wk.u | apply Wk.r | apply Wk.cons (wkV.nilf _ _))⟩, (Free.full _ _), (Free.full _ _), (Free.full _ _), (Free.full _ _), (tlNe.full _), (tlNe.full _), (tlNe.full _), (tlNe.full _), (tlNe.full _), (tlNe.full _)⟩⟩ ?_
     rintro ⟨k28, x19, x20, x22, x24, x26, tl21, tl23, tl25, tl27⟩ H29 ⟨hg, hE, f9_o1, f_o15, F30, F31, F32, F33, D34, D35, D36, D37, D38, D39⟩ _
     have f_o1 : H29[o1]? = some (.cells ([.int .i64 0, .int .i64 0, .dl 0 [] .full, .dl 0 [] .full, .dl 0 [] .full, .dl 0 [] .full, .dl 0 [] .full])) := f9_o1
     clear f9_o1
     try dsimp only at hg f_o15 F30 F31 F32 F33 D34 D35 D36 D37 D38 D39
     cases k28 with
     | zero => simp only [l11_0, reduceCtorEq] at hg
     | succ k28 =>
      rw [l11_0] at hg
      obtain ⟨cs_o15, f_o15, w_o15⟩ := f_o15
      refine AWP.wkGo (H0 := H) f_o15 w_o15 hE g_o15 ?_
      intro H40 hE f9_o15 p41 l9
      have F30 := F30.keep f_o15 p41
      have F31 := F31.keep f_o15 p41
      have F32 := F32.keep f_o15 p41
      have F33 := F33.keep f_o15 p41
      have f_o1 := p41 _ _ ne_o1_o15 f_o1
      have f_o15 : H40[o15]? = some (.cells ([.int .i64 a0, .int .i64 a1, .dl 1 (List.map (AV.int .i64) x20) tl21, .dl 1 (List.map (AV.int .i64) x22) tl23, .dl 1 (List.map (AV.int .u64) v11) .none, .dl 1 (List.map (AV.int .u64) x24) tl25, .dl 1 (List.map (AV.int .u64) x26) tl27])) := f9_o15
      refine eawp_sound noY_sound _ _ _ _ ?_
      simp only [EVA, reduceIte, reduceCtorEq, Nat.reduceLT, Nat.reduceLeDiff, Int.reduceEq, Int.reduceLT, Int.reduceLE, Nat.reduceMul, h5, eq_true h6, eq_true h7, eq_false h8, f_o1, f_o15, (show IntKind.i64.wrap 1 = 1 from rfl)]
      rcases ite_some hg with ⟨h42, hg⟩ | ⟨h42, hg⟩
      ·refine Br.yes h42 ?_
       obtain ⟨h43, hg⟩ := guard_some hg
       have q44 : List.getD (List.map encS6 a2) (Int.toNat x19) AV.undef = encS6 (rd a2 x19) := rd_map (l := a2) (i := x19) encS6 h43
       simp only [EVA, reduceIte, reduceCtorEq, Nat.reduceLT, Nat.reduceLeDiff, Int.reduceEq, Int.reduceLT, Int.reduceLE, Nat.reduceMul, h5, eq_true h6, eq_true h7, eq_false h8, eq_true h42, eq_true h43.1, eq_true h43.2, q44, f_o1, f_o15, (show IntKind.i64.wrap 1 = 1 from rfl)]
       refine eop_alloc_go (H0 := H) ty85 rfl rfl hE ?_
       intro o45 H46 hE xo45 g_o45 f_o45 n_o45
       have ne_o1_o45 := n_o45 _ _ f_o1
       have f_o1 := xo45.2 _ _ f_o1
       have ne_o15_o45 := n_o45 _ _ f_o15
       have f_o15 := xo45.2 _ _ f_o15
       have F30 := F30.mono xo45
       have F31 := F31.mono xo45
       have F32 := F32.mono xo45
       have F33 := F33.mono xo45
       have f_o45 : H46[o45]? = some (.cells ([.int .i64 0, .int .i64 0, .str ([]), .int .i64 0, .int .i64 0, .int .i64 0, .int .u64 0, .bool false])) := f_o45
       simp only [EVA, reduceIte, reduceCtorEq, Nat.reduceLT, Nat.reduceLeDiff, Int.reduceEq, Int.reduceLT, Int.reduceLE, Nat.reduceMul, h5, eq_true h6, eq_true h7, eq_false h8, eq_true h42, eq_true h43.1, eq_true h43.2, q44, f_o1, f_o15, f_o45, (show IntKind.i64.wrap 1 = 1 from rfl)]
       refine eop_store_go (H0 := H) (id := o45) (off := 0) (v := .agg [.int .i64 ((rd a2 x19).c0), .int .i64 ((rd a2 x19).c1), .str ((rd a2 x19).c2), .int .i64 ((rd a2 x19).c3), .int .i64 ((rd a2 x19).c4), .int .i64 ((rd a2 x19).c5), .int .u64 ((rd a2 x19).c6), .bool (rd a2 x19).c7]) rfl rfl f_o45 ty85 rfl rfl (Nat.le_of_ble_eq_true rfl) hE g_o45 ?_
       intro H47 hE f9_o45 p48 l9
       have F30 := F30.keep f_o45 p48
       have F31 := F31.keep f_o45 p48
       have F32 := F32.keep f_o45 p48
       have F33 := F33.keep f_o45 p48
       have f_o1 := p48 _ _ ne_o1_o45 f_o1
       have f_o15 := p48 _ _ ne_o15_o45 f_o15
       have f_o45 : H47[o45]? = some (.cells ([.int .i64 ((rd a2 x19).c0), .int .i64 ((rd a2 x19).c1), .str ((rd a2 x19).c2), .int .i64 ((rd a2 x19).c3), .int .i64 ((rd a2 x19).c4), .int .i64 ((rd a2 x19).c5), .int .u64 ((rd a2 x19).c6), .bool (rd a2 x19).c7])) := f9_o45
       obtain ⟨h49, hg⟩ := guard_some hg
       have q50 : List.getD (List.map encS6 a3) (Int.toNat x19) AV.undef = encS6 (rd a3 x19) := rd_map (l := a3) (i := x19) encS6 h49
       simp only [EVA, reduceIte, reduceCtorEq, Nat.reduceLT, Nat.reduceLeDiff, Int.reduceEq, Int.reduceLT, Int.reduceLE, Nat.reduceMul, h5, eq_true h6, eq_true h7, eq_false h8, eq_true h42, eq_true h43.1, eq_true h43.2, q44, eq_true h49.1, eq_true h49.2, q50, f_o1, f_o15, f_o45, (show IntKind.i64.wrap 1 = 1 from rfl)]
       refine eop_alloc_go (H0 := H) ty85 rfl rfl hE ?_
       intro o51 H52 hE xo51 g_o51 f_o51 n_o51
       have ne_o1_o51 := n_o51 _ _ f_o1
       have f_o1 := xo51.2 _ _ f_o1
       have ne_o15_o51 := n_o51 _ _ f_o15
       have f_o15 := xo51.2 _ _ f_o15
       have ne_o45_o51 := n_o51 _ _ f_o45
       have f_o45 := xo51.2 _ _ f_o45
       have F30 := F30.mono xo51
       have F31 := F31.mono xo51
       have F32 := F32.mono xo51
       have F33 := F33.mono xo51
       have f_o51 : H52[o51]? = some (.cells ([.int .i64 0, .int .i64 0, .str ([]), .int .i64 0, .int .i64 0, .int .i64 0, .int .u64 0, .bool false])) := f_o51
       simp only [EVA, reduceIte, reduceCtorEq, Nat.reduceLT, Nat.reduceLeDiff, Int.reduceEq, Int.reduceLT, Int.reduceLE, Nat.reduceMul, h5, eq_true h6, eq_true h7, eq_false h8, eq_true h42, eq_true h43.1, eq_true h43.2, q44, eq_true h49.1, eq_true h49.2, q50, f_o1, f_o15, f_o45, f_o51, (show IntKind.i64.wrap 1 = 1 from rfl)]
       refine eop_store_go (H0 := H) (id := o51) (off := 0) (v := .agg [.int .i64 ((rd a3 x19).c0), .int .i64 ((rd a3 x19).c1), .str ((rd a3 x19).c2), .int .i64 ((rd a3 x19).c3), .int .i64 ((rd a3 x19).c4), .int .i64 ((rd a3 x19).c5), .int .u64 ((rd a3 x19).c6), .bool (rd a3 x19).c7]) rfl rfl f_o51 ty85 rfl rfl (Nat.le_of_ble_eq_true rfl) hE g_o51 ?_
       intro H53 hE f9_o51 p54 l9
       have F30 := F30.keep f_o51 p54
       have F31 := F31.keep f_o51 p54
       have F32 := F32.keep f_o51 p54
       have F33 := F33.keep f_o51 p54
       have f_o1 := p54 _ _ ne_o1_o51 f_o1
       have f_o15 := p54 _ _ ne_o15_o51 f_o15
       have f_o45 := p54 _ _ ne_o45_o51 f_o45
       have f_o51 : H53[o51]? = some (.cells ([.int .i64 ((rd a3 x19).c0), .int .i64 ((rd a3 x19).c1), .str ((rd a3 x19).c2), .int .i64 ((rd a3 x19).c3), .int .i64 ((rd a3 x19).c4), .int .i64 ((rd a3 x19).c5), .int .u64 ((rd a3 x19).c6), .bool (rd a3 x19).c7])) := f9_o51
       rcases ite_some hg with ⟨h55, hg⟩ | ⟨h55, hg⟩
       ·rcases ite_some hg with ⟨h56, hg⟩ | ⟨h56, hg⟩
        ·simp only [EVA, reduceIte, reduceCtorEq, Nat.reduceLT, Nat.reduceLeDiff, Int.reduceEq, Int.reduceLT, Int.reduceLE, Nat.reduceMul, h5, eq_true h6, eq_true h7, eq_false h8, eq_true h42, eq_true h43.1, eq_true h43.2, q44, eq_true h49.1, eq_true h49.2, q50, h55, h56, f_o1, f_o15, f_o45, f_o51, (show IntKind.i64.wrap 1 = 1 from rfl)]
         refine eop_store_go (H0 := H) (id := o1) (off := 0) (v := .agg [.int .i64 0, .int .i64 0, .dl 0 [] .full, .dl 0 [] .full, .dl 0 [] .full, .dl 0 [] .full, .dl 0 [] .full]) rfl rfl f_o1 ty33 rfl rfl (Nat.le_of_ble_eq_true rfl) hE g_o1 ?_
         intro H57 hE f9_o1 p58 l9
         have F30 := F30.keep f_o1 p58
         have F31 := F31.keep f_o1 p58
         have F32 := F32.keep f_o1 p58
         have F33 := F33.keep f_o1 p58
         have f_o15 := p58 _ _ (Ne.symm ne_o1_o15) f_o15
         have f_o45 := p58 _ _ (Ne.symm ne_o1_o45) f_o45
         have f_o51 := p58 _ _ (Ne.symm ne_o1_o51) f_o51
         have f_o1 : H57[o1]? = some (.cells ([.int .i64 0, .int .i64 0, .dl 0 [] .full, .dl 0 [] .full, .dl 0 [] .full, .dl 0 [] .full, .dl 0 [] .full])) := f9_o1
         simp only [EVA, reduceIte, reduceCtorEq, Nat.reduceLT, Nat.reduceLeDiff, Int.reduceEq, Int.reduceLT, Int.reduceLE, Nat.reduceMul, rs11, h5, eq_true h6, eq_true h7, eq_false h8, eq_true h42, eq_true h43.1, eq_true h43.2, q44, eq_true h49.1, eq_true h49.2, q50, h55, h56, f_o1, f_o15, f_o45, f_o51, (show IntKind.i64.wrap 1 = 1 from rfl)]
         obtain rfl := Option.some.inj hg
         exact ⟨_, (wkR.tup (WkA.cons (wkA.agg (by repeat' first | exact Wk.nil | apply Wk.u | apply Wk.r | apply Wk.cons (wkV.nil _ _ _))) (WkA.r WkA.nil))), (hK  _ hE )⟩
        ·have h56 := Bool.eq_false_iff.2 h56
         simp only [EVA, reduceIte, reduceCtorEq, Nat.reduceLT, Nat.reduceLeDiff, Int.reduceEq, Int.reduceLT, Int.reduceLE, Nat.reduceMul, h5, eq_true h6, eq_true h7, eq_false h8, eq_true h42, eq_true h43.1, eq_true h43.2, q44, eq_true h49.1, eq_true h49.2, q50, h55, h56, f_o1, f_o15, f_o45, f_o51, (show IntKind.i64.wrap 1 = 1 from rfl)]
         rcases ite_some hg with ⟨h59, hg⟩ | ⟨h59, hg⟩
         ·refine Br.yes h59 ?_
          simp only [EVA, reduceIte, reduceCtorEq, Nat.reduceLT, Nat.reduceLeDiff, Int.reduceEq, Int.reduceLT, Int.reduceLE, Nat.reduceMul, h5, eq_true h6, eq_true h7, eq_false h8, eq_true h42, eq_true h43.1, eq_true h43.2, q44, eq_true h49.1, eq_true h49.2, q50, h55, h56, eq_true h59, f_o1, f_o15, f_o45, f_o51, (show IntKind.i64.wrap 1 = 1 from rfl)]
          rcases ite_some hg with ⟨h60, hg⟩ | ⟨h60, hg⟩
          ·refine Br.yes h60 ?_
           simp only [EVA, reduceIte, reduceCtorEq, Nat.reduceLT, Nat.reduceLeDiff, Int.reduceEq, Int.reduceLT, Int.reduceLE, Nat.reduceMul, h5, eq_true h6, eq_true h7, eq_false h8, eq_true h42, eq_true h43.1, eq_true h43.2, q44, eq_true h49.1, eq_true h49.2, q50, h55, h56, eq_true h59, eq_true h60, f_o1, f_o15, f_o45, f_o51, (show IntKind.i64.wrap 1 = 1 from rfl)]
           rcases ite_some hg with ⟨h61, hg⟩ | ⟨h61, hg⟩
           ·refine Br.yes h61 ?_
            simp only [EVA, reduceIte, reduceCtorEq, Nat.reduceLT, Nat.reduceLeDiff, Int.reduceEq, Int.reduceLT, Int.reduceLE, Nat.reduceMul, h5, eq_true h6, eq_true h7, eq_false h8, eq_true h42, eq_true h43.1, eq_true h43.2, q44, eq_true h49.1, eq_true h49.2, q50, h55, h56, eq_true h59, eq_true h60, eq_true h61, f_o1, f_o15, f_o45, f_o51, (show IntKind.i64.wrap 1 = 1 from rfl)]
            rcases ite_some hg with ⟨h62, hg⟩ | ⟨h62, hg⟩
            ·refine Br.yes h62 ?_
             simp only [EVA, reduceIte, reduceCtorEq, Nat.reduceLT, Nat.reduceLeDiff, Int.reduceEq, Int.reduceLT, Int.reduceLE, Nat.reduceMul, h5, eq_true h6, eq_true h7, eq_false h8, eq_true h42, eq_true h43.1, eq_true h43.2, q44, eq_true h49.1, eq_true h49.2, q50, h55, h56, eq_true h59, eq_true h60, eq_true h61, eq_true h62, f_o1, f_o15, f_o45, f_o51, (show IntKind.i64.wrap 1 = 1 from rfl)]
             refine AWP.draw noY_sound [[], [0], [], [2], [2, 3], [0, 1, 2, 3, 4], [], [6], [], [8], [8, 9], [0, 1, 2, 3, 4, 5, 6, 7, 8, 9, 10], [0, 1, 2, 3, 4, 5, 6, 7], [0, 1, 2, 3, 4, 5, 6, 7, 8, 9, 10, 11, 12], [0, 1, 2, 3, 4, 5, 6, 7, 8, 9, 10, 11, 12, 13], [0, 1, 2, 3, 4, 5, 6, 7, 8, 9, 10, 11, 12, 13, 14]] [⟨0, false, []⟩, ⟨1, false, []⟩, ⟨2, false, []⟩, ⟨3, false, []⟩, ⟨4, false, []⟩, ⟨6, false, []⟩, ⟨7, false, []⟩, ⟨8, false, []⟩, ⟨9, false, []⟩, ⟨10, false, []⟩, ⟨5, true, [7, 9]⟩, ⟨12, false, []⟩, ⟨11, true, []⟩, ⟨13, true, []⟩, ⟨14, false, []⟩, ⟨15, true, []⟩] [0, 1, 2, 3, 4, 5, 6, 7, 8, 9, 10, 11, 12, 13, 14, 15] [0, 1, 2, 3, 4, 5, 6, 7, 8, 9, 10, 11, 12, 13, 14, 15] (by kernel_rfl) ?_
             simp only [EVA, reduceIte, reduceCtorEq, Nat.reduceLT, Nat.reduceLeDiff, Int.reduceEq, Int.reduceLT, Int.reduceLE, Nat.reduceMul, h5, eq_true h6, eq_true h7, eq_false h8, eq_true h42, eq_true h43.1, eq_true h43.2, q44, eq_true h49.1, eq_true h49.2, q50, h55, h56, eq_true h59, eq_true h60, eq_true h61, eq_true h62, f_o1, f_o15, f_o45, f_o51, (show IntKind.i64.wrap 1 = 1 from rfl)]
             obtain ⟨h68, hg⟩ := guard_some hg
             refine AppE.goM (H0 := H) (AV.int .i64) x20 ([(rd a2 x19).c0] : List Int) (n := 17592186044416) ty22 rfl ty3 rfl rfl (by decide) (.dl 1 [.int .i64 ((rd a2 x19).c0)] .full) (wkD.refl _) (srcA_dl ty22 rfl) (.inl rfl) h68 (by decide) (by decide) hE F30 ?_
             intro tl63 H64 hE F65 p66 q67 l9
             have f_o1 := p66 _ _ (cnt _) f_o1
             have f_o15 := p66 _ _ (cnt _) f_o15
             have f_o45 := p66 _ _ (cnt _) f_o45
             have f_o51 := p66 _ _ (cnt _) f_o51
             obtain ⟨F31, D69⟩ := q67 _ F31 D34
             obtain ⟨F32, D70⟩ := q67 _ F32 D35
             obtain ⟨F33, D71⟩ := q67 _ F33 D36
             simp only [EVA, reduceIte, reduceCtorEq, Nat.reduceLT, Nat.reduceLeDiff, Int.reduceEq, Int.reduceLT, Int.reduceLE, Nat.reduceMul, h5, eq_true h6, eq_true h7, eq_false h8, eq_true h42, eq_true h43.1, eq_true h43.2, q44, eq_true h49.1, eq_true h49.2, q50, h55, h56, eq_true h59, eq_true h60, eq_true h61, eq_true h62, f_o1, f_o15, f_o45, f_o51, (show IntKind.i64.wrap 1 = 1 from rfl)]
             obtain ⟨h77, hg⟩ := guard_some hg
             refine AppE.goM (H0 := H) (AV.int .i64) x22 ([(rd a3 x19).c0] : List Int) (n := 17592186044416) ty22 rfl ty3 rfl rfl (by decide) (.dl 1 [.int .i64 ((rd a3 x19).c0)] .full) (wkD.refl _) (srcA_dl ty22 rfl) (.inl rfl) h77 (by decide) (by decide) hE F31 ?_
             intro tl72 H73 hE F74 p75 q76 l9
             have f_o1 := p75 _ _ (cnt _) f_o1
             have f_o15 := p75 _ _ (cnt _) f_o15
             have f_o45 := p75 _ _ (cnt _) f_o45
             have f_o51 := p75 _ _ (cnt _) f_o51
             obtain ⟨F32, D78⟩ := q76 _ F32 D37
             obtain ⟨F33, D79⟩ := q76 _ F33 D38
             obtain ⟨F65, D80⟩ := q76 _ F65 D69.symm
             simp only [EVA, reduceIte, reduceCtorEq, Nat.reduceLT, Nat.reduceLeDiff, Int.reduceEq, Int.reduceLT, Int.reduceLE, Nat.reduceMul, h5, eq_true h6, eq_true h7, eq_false h8, eq_true h42, eq_true h43.1, eq_true h43.2, q44, eq_true h49.1, eq_true h49.2, q50, h55, h56, eq_true h59, eq_true h60, eq_true h61, eq_true h62, f_o1, f_o15, f_o45, f_o51, (show IntKind.i64.wrap 1 = 1 from rfl)]
             refine eop_store_go (H0 := H) (id := o15) (off := 2) (v := .dl 1 (List.map (AV.int .i64) (x20 ++ ([(rd a2 x19).c0] : List Int))) tl63) rfl rfl f_o15 ty22 rfl rfl (Nat.le_of_ble_eq_true rfl) hE g_o15 ?_
             intro H81 hE f9_o15 p82 l9
             have F32 := F32.keep f_o15 p82
             have F33 := F33.keep f_o15 p82
             have F65 := F65.keep f_o15 p82
             have F74 := F74.keep f_o15 p82
             have f_o1 := p82 _ _ ne_o1_o15 f_o1
             have f_o45 := p82 _ _ (Ne.symm ne_o15_o45) f_o45
             have f_o51 := p82 _ _ (Ne.symm ne_o15_o51) f_o51
             have f_o15 : H81[o15]? = some (.cells ([.int .i64 a0, .int .i64 a1, .dl 1 (List.map (AV.int .i64) (x20 ++ ([(rd a2 x19).c0] : List Int))) tl63, .dl 1 (List.map (AV.int .i64) x22) tl23, .dl 1 (List.map (AV.int .u64) v11) .none, .dl 1 (List.map (AV.int .u64) x24) tl25, .dl 1 (List.map (AV.int .u64) x26) tl27])) := f9_o15
             simp only [EVA, reduceIte, reduceCtorEq, Nat.reduceLT, Nat.reduceLeDiff, Int.reduceEq, Int.reduceLT, Int.reduceLE, Nat.reduceMul, h5, eq_true h6, eq_true h7, eq_false h8, eq_true h42, eq_true h43.1, eq_true h43.2, q44, eq_true h49.1, eq_true h49.2, q50, h55, h56, eq_true h59, eq_true h60, eq_true h61, eq_true h62, f_o1, f_o15, f_o45, f_o51, (show IntKind.i64.wrap 1 = 1 from rfl)]
             refine eop_store_go (H0 := H) (id := o15) (off := 3) (v := .dl 1 (List.map (AV.int .i64) (x22 ++ ([(rd a3 x19).c0] : List Int))) tl72) rfl rfl f_o15 ty22 rfl rfl (Nat.le_of_ble_eq_true rfl) hE g_o15 ?_
             intro H83 hE f9_o15 p84 l9
             have F32 := F32.keep f_o15 p84
             have F33 := F33.keep f_o15 p84
             have F65 := F65.keep f_o15 p84
             have F74 := F74.keep f_o15 p84
             have f_o1 := p84 _ _ ne_o1_o15 f_o1
             have f_o45 := p84 _ _ (Ne.symm ne_o15_o45) f_o45
             have f_o51 := p84 _ _ (Ne.symm ne_o15_o51) f_o51
             have f_o15 : H83[o15]? = some (.cells ([.int .i64 a0, .int .i64 a1, .dl 1 (List.map (AV.int .i64) (x20 ++ ([(rd a2 x19).c0] : List Int))) tl63, .dl 1 (List.map (AV.int .i64) (x22 ++ ([(rd a3 x19).c0] : List Int))) tl72, .dl 1 (List.map (AV.int .u64) v11) .none, .dl 1 (List.map (AV.int .u64) x24) tl25, .dl 1 (List.map (AV.int .u64) x26) tl27])) := f9_o15
             simp only [EVA, reduceIte, reduceCtorEq, Nat.reduceLT, Nat.reduceLeDiff, Int.reduceEq, Int.reduceLT, Int.reduceLE, Nat.reduceMul, h5, eq_true h6, eq_true h7, eq_false h8, eq_true h42, eq_true h43.1, eq_true h43.2, q44, eq_true h49.1, eq_true h49.2, q50, h55, h56, eq_true h59, eq_true h60, eq_true h61, eq_true h62, f_o1, f_o15, f_o45, f_o51, (show IntKind.i64.wrap 1 = 1 from rfl)]
             refine AWP.draw noY_sound [[], [0], [], [2], [2, 3], [0, 1, 2, 3, 4], [], [6], [], [], [8, 9], [8, 9, 10], [0, 1, 2, 3, 4, 5, 8, 9, 10, 11], [0, 1, 2, 3, 4, 5, 8, 9, 10, 11, 12], [0, 1, 2, 3, 4, 5, 6, 7, 8, 9, 10, 11, 12, 13], [0, 1, 2, 3, 4, 5, 6, 7], [0, 1, 2, 3, 4, 5, 6, 7, 8, 9, 10, 11, 12, 13, 14, 15], [0, 1, 2, 3, 4, 5, 6, 7, 8, 9, 10, 11, 12, 13, 14, 15, 16], [0, 1, 2, 3, 4, 5, 6, 7, 8, 9, 10, 11, 12, 13, 14, 15, 16, 17]] [⟨0, false, []⟩, ⟨1, false, []⟩, ⟨2, false, []⟩, ⟨3, false, []⟩, ⟨4, false, []⟩, ⟨6, false, []⟩, ⟨7, false, []⟩, ⟨8, false, []⟩, ⟨9, false, []⟩, ⟨10, false, []⟩, ⟨11, false, []⟩, ⟨5, true, [7, 11]⟩, ⟨15, false, []⟩, ⟨12, true, [7]⟩, ⟨13, false, []⟩, ⟨14, true, []⟩, ⟨16, true, []⟩, ⟨17, false, []⟩, ⟨18, true, []⟩] [0, 1, 2, 3, 4, 5, 6, 7, 8, 9, 10, 11, 12, 13, 14, 15, 16, 17, 18] [0, 1, 2, 3, 4, 5, 6, 7, 8, 9, 10, 11, 12, 13, 14, 15, 16, 17, 18] (by kernel_rfl) ?_
             obtain ⟨h85, hg⟩ := guard_some hg
             have q86 : List.getD (List.map encL3 a5) (Int.toNat x19) AV.undef = encL3 (rd a5 x19) := rd_map (l := a5) (i := x19) encL3 h85
             simp only [EVA, reduceIte, reduceCtorEq, Nat.reduceLT, Nat.reduceLeDiff, Int.reduceEq, Int.reduceLT, Int.reduceLE, Nat.reduceMul, h5, eq_true h6, eq_true h7, eq_false h8, eq_true h42, eq_true h43.1, eq_true h43.2, q44, eq_true h49.1, eq_true h49.2, q50, h55, h56, eq_true h59, eq_true h60, eq_true h61, eq_true h62, eq_true h85.1, eq_true h85.2, q86, f_o1, f_o15, f_o45, f_o51, (show IntKind.i64.wrap 1 = 1 from rfl)]
             obtain ⟨h92, hg⟩ := guard_some hg
             refine AppE.goM (H0 := H) (AV.int .u64) x24 ([(rd a3 x19).c6] : List Int) (n := 17592186044416) ty27 rfl ty53 rfl rfl (by decide) (.dl 1 [.int .u64 ((rd a3 x19).c6)] .full) (wkD.refl _) (srcA_dl ty27 rfl) (.inl rfl) h92 (by decide) (by decide) hE F32 ?_
             intro tl87 H88 hE F89 p90 q91 l9
             have f_o1 := p90 _ _ (cnt _) f_o1
             have f_o15 := p90 _ _ (cnt _) f_o15
             have f_o45 := p90 _ _ (cnt _) f_o45
             have f_o51 := p90 _ _ (cnt _) f_o51
             obtain ⟨F33, D93⟩ := q91 _ F33 D39
             obtain ⟨F65, D94⟩ := q91 _ F65 D70.symm
             obtain ⟨F74, D95⟩ := q91 _ F74 D78.symm
             simp only [EVA, reduceIte, reduceCtorEq, Nat.reduceLT, Nat.reduceLeDiff, Int.reduceEq, Int.reduceLT, Int.reduceLE, Nat.reduceMul, h5, eq_true h6, eq_true h7, eq_false h8, eq_true h42, eq_true h43.1, eq_true h43.2, q44, eq_true h49.1, eq_true h49.2, q50, h55, h56, eq_true h59, eq_true h60, eq_true h61, eq_true h62, eq_true h85.1, eq_true h85.2, q86, f_o1, f_o15, f_o45, f_o51, (show IntKind.i64.wrap 1 = 1 from rfl)]
             obtain ⟨v96, ch97, hg⟩ := bind_some hg
             refine ACall.wkA (args := [.dl 7 (List.map encS1 (rd a5 x19)) .none]) (c23 B w0 n (rd a5 x19) .none _ _ v96 ch97  ?_) (WkA.r WkA.nil)
             intro H98 x99
             have F33 := F33.mono x99
             have F65 := F65.mono x99
             have F74 := F74.mono x99
             have F89 := F89.mono x99
             have f_o1 := x99.2 _ _ f_o1
             have f_o15 := x99.2 _ _ f_o15
             have f_o45 := x99.2 _ _ f_o45
             have f_o51 := x99.2 _ _ f_o51
             have hE := hE.trans x99
             simp only [EVA, reduceIte, reduceCtorEq, Nat.reduceLT, Nat.reduceLeDiff, Int.reduceEq, Int.reduceLT, Int.reduceLE, Nat.reduceMul, h5, eq_true h6, eq_true h7, eq_false h8, eq_true h42, eq_true h43.1, eq_true h43.2, q44, eq_true h49.1, eq_true h49.2, q50, h55, h56, eq_true h59, eq_true h60, eq_true h61, eq_true h62, eq_true h85.1, eq_true h85.2, q86, f_o1, f_o15, f_o45, f_o51, (show IntKind.i64.wrap 1 = 1 from rfl)]
             obtain ⟨h105, hg⟩ := guard_some hg
             refine AppE.goM (H0 := H) (AV.int .u64) x26 ([v96] : List Int) (n := 17592186044416) ty27 rfl ty53 rfl rfl (by decide) (.dl 1 [.int .u64 v96] .full) (wkD.refl _) (srcA_dl ty27 rfl) (.inl rfl) h105 (by decide) (by decide) hE F33 ?_
             intro tl100 H101 hE F102 p103 q104 l9
             have f_o1 := p103 _ _ (cnt _) f_o1
             have f_o15 := p103 _ _ (cnt _) f_o15
             have f_o45 := p103 _ _ (cnt _) f_o45
             have f_o51 := p103 _ _ (cnt _) f_o51
             obtain ⟨F65, D106⟩ := q104 _ F65 D71.symm
             obtain ⟨F74, D107⟩ := q104 _ F74 D79.symm
             obtain ⟨F89, D108⟩ := q104 _ F89 D93.symm
             simp only [EVA, reduceIte, reduceCtorEq, Nat.reduceLT, Nat.reduceLeDiff, Int.reduceEq, Int.reduceLT, Int.reduceLE, Nat.reduceMul, h5, eq_true h6, eq_true h7, eq_false h8, eq_true h42, eq_true h43.1, eq_true h43.2, q44, eq_true h49.1, eq_true h49.2, q50, h55, h56, eq_true h59, eq_true h60, eq_true h61, eq_true h62, eq_true h85.1, eq_true h85.2, q86, f_o1, f_o15, f_o45, f_o51, (show IntKind.i64.wrap 1 = 1 from rfl)]
             refine eop_store_go (H0 := H) (id := o15) (off := 5) (v := .dl 1 (List.map (AV.int .u64) (x24 ++ ([(rd a3 x19).c6] : List Int))) tl87) rfl rfl f_o15 ty27 rfl rfl (Nat.le_of_ble_eq_true rfl) hE g_o15 ?_
             intro H109 hE f9_o15 p110 l9
             have F65 := F65.keep f_o15 p110
             have F74 := F74.keep f_o15 p110
             have F89 := F89.keep f_o15 p110
             have F102 := F102.keep f_o15 p110
             have f_o1 := p110 _ _ ne_o1_o15 f_o1
             have f_o45 := p110 _ _ (Ne.symm ne_o15_o45) f_o45
             have f_o51 := p110 _ _ (Ne.symm ne_o15_o51) f_o51
             have f_o15 : H109[o15]? = some (.cells ([.int .i64 a0, .int .i64 a1, .dl 1 (List.map (AV.int .i64) (x20 ++ ([(rd a2 x19).c0] : List Int))) tl63, .dl 1 (List.map (AV.int .i64) (x22 ++ ([(rd a3 x19).c0] : List Int))) tl72, .dl 1 (List.map (AV.int .u64) v11) .none, .dl 1 (List.map (AV.int .u64) (x24 ++ ([(rd a3 x19).c6] : List Int))) tl87, .dl 1 (List.map (AV.int .u64) x26) tl27])) := f9_o15
             simp only [EVA, reduceIte, reduceCtorEq, Nat.reduceLT, Nat.reduceLeDiff, Int.reduceEq, Int.reduceLT, Int.reduceLE, Nat.reduceMul, h5, eq_true h6, eq_true h7, eq_false h8, eq_true h42, eq_true h43.1, eq_true h43.2, q44, eq_true h49.1, eq_true h49.2, q50, h55, h56, eq_true h59, eq_true h60, eq_true h61, eq_true h62, eq_true h85.1, eq_true h85.2, q86, f_o1, f_o15, f_o45, f_o51, (show IntKind.i64.wrap 1 = 1 from rfl)]
             refine eop_store_go (H0 := H) (id := o15) (off := 6) (v := .dl 1 (List.map (AV.int .u64) (x26 ++ ([v96] : List Int))) tl100) rfl rfl f_o15 ty27 rfl rfl (Nat.le_of_ble_eq_true rfl) hE g_o15 ?_
             intro H111 hE f9_o15 p112 l9
             have F65 := F65.keep f_o15 p112
             have F74 := F74.keep f_o15 p112
             have F89 := F89.keep f_o15 p112
             have F102 := F102.keep f_o15 p112
             have f_o1 := p112 _ _ ne_o1_o15 f_o1
             have f_o45 := p112 _ _ (Ne.symm ne_o15_o45) f_o45
             have f_o51 := p112 _ _ (Ne.symm ne_o15_o51) f_o51
             have f_o15 : H111[o15]? = some (.cells ([.int .i64 a0, .int .i64 a1, .dl 1 (List.map (AV.int .i64) (x20 ++ ([(rd a2 x19).c0] : List Int))) tl63, .dl 1 (List.map (AV.int .i64) (x22 ++ ([(rd a3 x19).c0] : List Int))) tl72, .dl 1 (List.map (AV.int .u64) v11) .none, .dl 1 (List.map (AV.int .u64) (x24 ++ ([(rd a3 x19).c6] : List Int))) tl87, .dl 1 (List.map (AV.int .u64) (x26 ++ ([v96] : List Int))) tl100])) := f9_o15
             simp only [EVA, reduceIte, reduceCtorEq, Nat.reduceLT, Nat.reduceLeDiff, Int.reduceEq, Int.reduceLT, Int.reduceLE, Nat.reduceMul, h5, eq_true h6, eq_true h7, eq_false h8, eq_true h42, eq_true h43.1, eq_true h43.2, q44, eq_true h49.1, eq_true h49.2, q50, h55, h56, eq_true h59, eq_true h60, eq_true h61, eq_true h62, eq_true h85.1, eq_true h85.2, q86, f_o1, f_o15, f_o45, f_o51, (show IntKind.i64.wrap 1 = 1 from rfl)]
             exact ⟨⟨k28, IntKind.i64.wrap (x19 + 1), x20 ++ ([(rd a2 x19).c0] : List Int), x22 ++ ([(rd a3 x19).c0] : List Int), x24 ++ ([(rd a3 x19).c6] : List Int), x26 ++ ([v96] : List Int), tl63, tl72, tl87, tl100⟩, (by repeat' first | exact Wk.nil | apply Wk.u | apply Wk.r), ⟨hg, hE, f_o1, ⟨_, f_o15, (by repeat' first | exact Wk.nil | apply Wk.u | apply Wk.r)⟩, F65, F74, F89, F102, D80.symm, D94.symm, D106.symm, D95.symm, D107.symm, D108.symm⟩, Nat.lt_succ_self _⟩
            ·refine Br.no h62 ?_
             simp only [EVA, reduceIte, reduceCtorEq, Nat.reduceLT, Nat.reduceLeDiff, Int.reduceEq, Int.reduceLT, Int.reduceLE, Nat.reduceMul, h5, eq_true h6, eq_true h7, eq_false h8, eq_true h42, eq_true h43.1, eq_true h43.2, q44, eq_true h49.1, eq_true h49.2, q50, h55, h56, eq_true h59, eq_true h60, eq_true h61, eq_false h62, f_o1, f_o15, f_o45, f_o51, (show IntKind.i64.wrap 1 = 1 from rfl)]
             refine eop_store_go (H0 := H) (id := o1) (off := 0) (v := .agg [.int .i64 0, .int .i64 0, .dl 0 [] .full, .dl 0 [] .full, .dl 0 [] .full, .dl 0 [] .full, .dl 0 [] .full]) rfl rfl f_o1 ty33 rfl rfl (Nat.le_of_ble_eq_true rfl) hE g_o1 ?_
             intro H113 hE f9_o1 p114 l9
             have F30 := F30.keep f_o1 p114
             have F31 := F31.keep f_o1 p114
             have F32 := F32.keep f_o1 p114
             have F33 := F33.keep f_o1 p114
             have f_o15 := p114 _ _ (Ne.symm ne_o1_o15) f_o15
             have f_o45 := p114 _ _ (Ne.symm ne_o1_o45) f_o45
             have f_o51 := p114 _ _ (Ne.symm ne_o1_o51) f_o51
             have f_o1 : H113[o1]? = some (.cells ([.int .i64 0, .int .i64 0, .dl 0 [] .full, .dl 0 [] .full, .dl 0 [] .full, .dl 0 [] .full, .dl 0 [] .full])) := f9_o1
             simp only [EVA, reduceIte, reduceCtorEq, Nat.reduceLT, Nat.reduceLeDiff, Int.reduceEq, Int.reduceLT, Int.reduceLE, Nat.reduceMul, rs11, h5, eq_true h6, eq_true h7, eq_false h8, eq_true h42, eq_true h43.1, eq_true h43.2, q44, eq_true h49.1, eq_true h49.2, q50, h55, h56, eq_true h59, eq_true h60, eq_true h61, eq_false h62, f_o1, f_o15, f_o45, f_o51, (show IntKind.i64.wrap 1 = 1 from rfl)]
             obtain rfl := Option.some.inj hg
             exact ⟨_, (wkR.tup (WkA.cons (wkA.agg (by repeat' first | exact Wk.nil | apply Wk.u | apply Wk.r | apply Wk.cons (wkV.nil _ _ _))) (WkA.r WkA.nil))), (hK  _ hE )⟩
           ·refine Br.no h61 ?_
            simp only [EVA, reduceIte, reduceCtorEq, Nat.reduceLT, Nat.reduceLeDiff, Int.reduceEq, Int.reduceLT, Int.reduceLE, Nat.reduceMul, h5, eq_true h6, eq_true h7, eq_false h8, eq_true h42, eq_true h43.1, eq_true h43.2, q44, eq_true h49.1, eq_true h49.2, q50, h55, h56, eq_true h59, eq_true h60, eq_false h61, f_o1, f_o15, f_o45, f_o51, (show IntKind.i64.wrap 1 = 1 from rfl)]
            refine eop_store_go (H0 := H) (id := o1) (off := 0) (v := .agg [.int .i64 0, .int .i64 0, .dl 0 [] .full, .dl 0 [] .full, .dl 0 [] .full, .dl 0 [] .full, .dl 0 [] .full]) rfl rfl f_o1 ty33 rfl rfl (Nat.le_of_ble_eq_true rfl) hE g_o1 ?_
            intro H115 hE f9_o1 p116 l9
            have F30 := F30.keep f_o1 p116
            have F31 := F31.keep f_o1 p116
            have F32 := F32.keep f_o1 p116
            have F33 := F33.keep f_o1 p116
            have f_o15 := p116 _ _ (Ne.symm ne_o1_o15) f_o15
            have f_o45 := p116 _ _ (Ne.symm ne_o1_o45) f_o45
            have f_o51 := p116 _ _ (Ne.symm ne_o1_o51) f_o51
            have f_o1 : H115[o1]? = some (.cells ([.int .i64 0, .int .i64 0, .dl 0 [] .full, .dl 0 [] .full, .dl 0 [] .full, .dl 0 [] .full, .dl 0 [] .full])) := f9_o1
            simp only [EVA, reduceIte, reduceCtorEq, Nat.reduceLT, Nat.reduceLeDiff, Int.reduceEq, Int.reduceLT, Int.reduceLE, Nat.reduceMul, rs11, h5, eq_true h6, eq_true h7, eq_false h8, eq_true h42, eq_true h43.1, eq_true h43.2, q44, eq_true h49.1, eq_true h49.2, q50, h55, h56, eq_true h59, eq_true h60, eq_false h61, f_o1, f_o15, f_o45, f_o51, (show IntKind.i64.wrap 1 = 1 from rfl)]
            obtain rfl := Option.some.inj hg
            exact ⟨_, (wkR.tup (WkA.cons (wkA.agg (by repeat' first | exact Wk.nil | apply Wk.u | apply Wk.r | apply Wk.cons (wkV.nil _ _ _))) (WkA.r WkA.nil))), (hK  _ hE )⟩
          ·refine Br.no h60 ?_
           simp only [EVA, reduceIte, reduceCtorEq, Nat.reduceLT, Nat.reduceLeDiff, Int.reduceEq, Int.reduceLT, Int.reduceLE, Nat.reduceMul, h5, eq_true h6, eq_true h7, eq_false h8, eq_true h42, eq_true h43.1, eq_true h43.2, q44, eq_true h49.1, eq_true h49.2, q50, h55, h56, eq_true h59, eq_false h60, f_o1, f_o15, f_o45, f_o51, (show IntKind.i64.wrap 1 = 1 from rfl)]
           refine eop_store_go (H0 := H) (id := o1) (off := 0) (v := .agg [.int .i64 0, .int .i64 0, .dl 0 [] .full, .dl 0 [] .full, .dl 0 [] .full, .dl 0 [] .full, .dl 0 [] .full]) rfl rfl f_o1 ty33 rfl rfl (Nat.le_of_ble_eq_true rfl) hE g_o1 ?_
           intro H117 hE f9_o1 p118 l9
           have F30 := F30.keep f_o1 p118
           have F31 := F31.keep f_o1 p118
           have F32 := F32.keep f_o1 p118
           have F33 := F33.keep f_o1 p118
           have f_o15 := p118 _ _ (Ne.symm ne_o1_o15) f_o15
           have f_o45 := p118 _ _ (Ne.symm ne_o1_o45) f_o45
           have f_o51 := p118 _ _ (Ne.symm ne_o1_o51) f_o51
           have f_o1 : H117[o1]? = some (.cells ([.int .i64 0, .int .i64 0, .dl 0 [] .full, .dl 0 [] .full, .dl 0 [] .full, .dl 0 [] .full, .dl 0 [] .full])) := f9_o1
           simp only [EVA, reduceIte, reduceCtorEq, Nat.reduceLT, Nat.reduceLeDiff, Int.reduceEq, Int.reduceLT, Int.reduceLE, Nat.reduceMul, rs11, h5, eq_true h6, eq_true h7, eq_false h8, eq_true h42, eq_true h43.1, eq_true h43.2, q44, eq_true h49.1, eq_true h49.2, q50, h55, h56, eq_true h59, eq_false h60, f_o1, f_o15, f_o45, f_o51, (show IntKind.i64.wrap 1 = 1 from rfl)]
           obtain rfl := Option.some.inj hg
           exact ⟨_, (wkR.tup (WkA.cons (wkA.agg (by repeat' first | exact Wk.nil | apply Wk.u | apply Wk.r | apply Wk.cons (wkV.nil _ _ _))) (WkA.r WkA.nil))), (hK  _ hE )⟩
         ·refine Br.no h59 ?_
          simp only [EVA, reduceIte, reduceCtorEq, Nat.reduceLT, Nat.reduceLeDiff, Int.reduceEq, Int.reduceLT, Int.reduceLE, Nat.reduceMul, h5, eq_true h6, eq_true h7, eq_false h8, eq_true h42, eq_true h43.1, eq_true h43.2, q44, eq_true h49.1, eq_true h49.2, q50, h55, h56, eq_false h59, f_o1, f_o15, f_o45, f_o51, (show IntKind.i64.wrap 1 = 1 from rfl)]
          refine eop_store_go (H0 := H) (id := o1) (off := 0) (v := .agg [.int .i64 0, .int .i64 0, .dl 0 [] .full, .dl 0 [] .full, .dl 0 [] .full, .dl 0 [] .full, .dl 0 [] .full]) rfl rfl f_o1 ty33 rfl rfl (Nat.le_of_ble_eq_true rfl) hE g_o1 ?_
          intro H119 hE f9_o1 p120 l9
          have F30 := F30.keep f_o1 p120
          have F31 := F31.keep f_o1 p120
          have F32 := F32.keep f_o1 p120
          have F33 := F33.keep f_o1 p120
          have f_o15 := p120 _ _ (Ne.symm ne_o1_o15) f_o15
          have f_o45 := p120 _ _ (Ne.symm ne_o1_o45) f_o45
          have f_o51 := p120 _ _ (Ne.symm ne_o1_o51) f_o51
          have f_o1 : H119[o1]? = some (.cells ([.int .i64 0, .int .i64 0, .dl 0 [] .full, .dl 0 [] .full, .dl 0 [] .full, .dl 0 [] .full, .dl 0 [] .full])) := f9_o1
          simp only [EVA, reduceIte, reduceCtorEq, Nat.reduceLT, Nat.reduceLeDiff, Int.reduceEq, Int.reduceLT, Int.reduceLE, Nat.reduceMul, rs11, h5, eq_true h6, eq_true h7, eq_false h8, eq_true h42, eq_true h43.1, eq_true h43.2, q44, eq_true h49.1, eq_true h49.2, q50, h55, h56, eq_false h59, f_o1, f_o15, f_o45, f_o51, (show IntKind.i64.wrap 1 = 1 from rfl)]
          obtain rfl := Option.some.inj hg
          exact ⟨_, (wkR.tup (WkA.cons (wkA.agg (by repeat' first | exact Wk.nil | apply Wk.u | apply Wk.r | apply Wk.cons (wkV.nil _ _ _))) (WkA.r WkA.nil))), (hK  _ hE )⟩
       ·have h55 := Bool.eq_false_iff.2 h55
        simp only [EVA, reduceIte, reduceCtorEq, Nat.reduceLT, Nat.reduceLeDiff, Int.reduceEq, Int.reduceLT, Int.reduceLE, Nat.reduceMul, h5, eq_true h6, eq_true h7, eq_false h8, eq_true h42, eq_true h43.1, eq_true h43.2, q44, eq_true h49.1, eq_true h49.2, q50, h55, f_o1, f_o15, f_o45, f_o51, (show IntKind.i64.wrap 1 = 1 from rfl)]
        refine eop_store_go (H0 := H) (id := o1) (off := 0) (v := .agg [.int .i64 0, .int .i64 0, .dl 0 [] .full, .dl 0 [] .full, .dl 0 [] .full, .dl 0 [] .full, .dl 0 [] .full]) rfl rfl f_o1 ty33 rfl rfl (Nat.le_of_ble_eq_true rfl) hE g_o1 ?_
        intro H121 hE f9_o1 p122 l9
        have F30 := F30.keep f_o1 p122
        have F31 := F31.keep f_o1 p122
        have F32 := F32.keep f_o1 p122
        have F33 := F33.keep f_o1 p122
        have f_o15 := p122 _ _ (Ne.symm ne_o1_o15) f_o15
        have f_o45 := p122 _ _ (Ne.symm ne_o1_o45) f_o45
        have f_o51 := p122 _ _ (Ne.symm ne_o1_o51) f_o51
        have f_o1 : H121[o1]? = some (.cells ([.int .i64 0, .int .i64 0, .dl 0 [] .full, .dl 0 [] .full, .dl 0 [] .full, .dl 0 [] .full, .dl 0 [] .full])) := f9_o1
        simp only [EVA, reduceIte, reduceCtorEq, Nat.reduceLT, Nat.reduceLeDiff, Int.reduceEq, Int.reduceLT, Int.reduceLE, Nat.reduceMul, rs11, h5, eq_true h6, eq_true h7, eq_false h8, eq_true h42, eq_true h43.1, eq_true h43.2, q44, eq_true h49.1, eq_true h49.2, q50, h55, f_o1, f_o15, f_o45, f_o51, (show IntKind.i64.wrap 1 = 1 from rfl)]
        obtain rfl := Option.some.inj hg
        exact ⟨_, (wkR.tup (WkA.cons (wkA.agg (by repeat' first | exact Wk.nil | apply Wk.u | apply Wk.r | apply Wk.cons (wkV.nil _ _ _))) (WkA.r WkA.nil))), (hK  _ hE )⟩
      ·refine Br.no h42 ?_
       simp only [EVA, reduceIte, reduceCtorEq, Nat.reduceLT, Nat.reduceLeDiff, Int.reduceEq, Int.reduceLT, Int.reduceLE, Nat.reduceMul, h5, eq_true h6, eq_true h7, eq_false h8, eq_false h42, f_o1, f_o15, (show IntKind.i64.wrap 1 = 1 from rfl)]
       obtain ⟨v123, ch124, hg⟩ := bind_some hg
       refine ACall.wkA (args := [.dl 1 (List.map (AV.int .i64) x20) tl21]) (c34 B w0 n x20 tl21 _ _ v123 ch124  ?_) (WkA.r WkA.nil)
       intro H125 x126
       have F30 := F30.mono x126
       have F31 := F31.mono x126
       have F32 := F32.mono x126
       have F33 := F33.mono x126
       have f_o1 := x126.2 _ _ f_o1
       have f_o15 := x126.2 _ _ f_o15
       have hE := hE.trans x126
       rcases ite_some hg with ⟨h127, hg⟩ | ⟨h127, hg⟩
       ·simp only [EVA, reduceIte, reduceCtorEq, Nat.reduceLT, Nat.reduceLeDiff, Int.reduceEq, Int.reduceLT, Int.reduceLE, Nat.reduceMul, h5, eq_true h6, eq_true h7, eq_false h8, eq_false h42, h127, f_o1, f_o15, (show IntKind.i64.wrap 1 = 1 from rfl)]
        obtain ⟨v128, ch129, hg⟩ := bind_some hg
        refine ACall.wkA (args := [.dl 1 (List.map (AV.int .i64) x22) tl23]) (c34 B w0 n x22 tl23 _ _ v128 ch129  ?_) (WkA.r WkA.nil)
        intro H130 x131
        have F30 := F30.mono x131
        have F31 := F31.mono x131
        have F32 := F32.mono x131
        have F33 := F33.mono x131
        have f_o1 := x131.2 _ _ f_o1
        have f_o15 := x131.2 _ _ f_o15
        have hE := hE.trans x131
        rcases ite_some hg with ⟨h132, hg⟩ | ⟨h132, hg⟩
        ·simp only [EVA, reduceIte, reduceCtorEq, Nat.reduceLT, Nat.reduceLeDiff, Int.reduceEq, Int.reduceLT, Int.reduceLE, Nat.reduceMul, h5, eq_true h6, eq_true h7, eq_false h8, eq_false h42, h127, h132, f_o1, f_o15, (show IntKind.i64.wrap 1 = 1 from rfl)]
         obtain ⟨v133, ch134, hg⟩ := bind_some hg
         refine ACall.wkA (args := [.dl 1 (List.map encL3 a5) ta5, .dl 1 (List.map (AV.int .u64) a4) ta4]) (c35 B w0 n a5 a4 ta5 ta4 _ _ v133 ch134  ?_) (WkA.r (WkA.r WkA.nil))
         intro H135 x136
         have F30 := F30.mono x136
         have F31 := F31.mono x136
         have F32 := F32.mono x136
         have F33 := F33.mono x136
         have f_o1 := x136.2 _ _ f_o1
         have f_o15 := x136.2 _ _ f_o15
         have hE := hE.trans x136
         rcases ite_some hg with ⟨h137, hg⟩ | ⟨h137, hg⟩
         ·simp only [EVA, reduceIte, reduceCtorEq, Nat.reduceLT, Nat.reduceLeDiff, Int.reduceEq, Int.reduceLT, Int.reduceLE, Nat.reduceMul, h5, eq_true h6, eq_true h7, eq_false h8, eq_false h42, h127, h132, h137, f_o1, f_o15, (show IntKind.i64.wrap 1 = 1 from rfl)]
          refine eop_store_go (H0 := H) (id := o1) (off := 0) (v := .agg [.int .i64 0, .int .i64 0, .dl 0 [] .full, .dl 0 [] .full, .dl 0 [] .full, .dl 0 [] .full, .dl 0 [] .full]) rfl rfl f_o1 ty33 rfl rfl (Nat.le_of_ble_eq_true rfl) hE g_o1 ?_
          intro H138 hE f9_o1 p139 l9
          have F30 := F30.keep f_o1 p139
          have F31 := F31.keep f_o1 p139
          have F32 := F32.keep f_o1 p139
          have F33 := F33.keep f_o1 p139
          have f_o15 := p139 _ _ (Ne.symm ne_o1_o15) f_o15
          have f_o1 : H138[o1]? = some (.cells ([.int .i64 0, .int .i64 0, .dl 0 [] .full, .dl 0 [] .full, .dl 0 [] .full, .dl 0 [] .full, .dl 0 [] .full])) := f9_o1
          simp only [EVA, reduceIte, reduceCtorEq, Nat.reduceLT, Nat.reduceLeDiff, Int.reduceEq, Int.reduceLT, Int.reduceLE, Nat.reduceMul, rs11, h5, eq_true h6, eq_true h7, eq_false h8, eq_false h42, h127, h132, h137, f_o1, f_o15, (show IntKind.i64.wrap 1 = 1 from rfl)]
          obtain rfl := Option.some.inj hg
          exact ⟨_, (wkR.tup (WkA.cons (wkA.agg (by repeat' first | exact Wk.nil | apply Wk.u | apply Wk.r | apply Wk.cons (wkV.nil _ _ _))) (WkA.r WkA.nil))), (hK  _ hE )⟩
         ·have h137 := Bool.eq_false_iff.2 h137
          simp only [EVA, reduceIte, reduceCtorEq, Nat.reduceLT, Nat.reduceLeDiff, Int.reduceEq, Int.reduceLT, Int.reduceLE, Nat.reduceMul, h5, eq_true h6, eq_true h7, eq_false h8, eq_false h42, h127, h132, h137, f_o1, f_o15, (show IntKind.i64.wrap 1 = 1 from rfl)]
          refine eop_store_go (H0 := H) (id := o1) (off := 0) (v := .agg [.int .i64 a0, .int .i64 a1, .dl 1 (List.map (AV.int .i64) x20) tl21, .dl 1 (List.map (AV.int .i64) x22) tl23, .dl 1 (List.map (AV.int .u64) v11) .none, .dl 1 (List.map (AV.int .u64) x24) tl25, .dl 1 (List.map (AV.int .u64) x26) tl27]) rfl rfl f_o1 ty33 rfl rfl (Nat.le_of_ble_eq_true rfl) hE g_o1 ?_
          intro H140 hE f9_o1 p141 l9
          have F30 := F30.keep f_o1 p141
          have F31 := F31.keep f_o1 p141
          have F32 := F32.keep f_o1 p141
          have F33 := F33.keep f_o1 p141
          have f_o15 := p141 _ _ (Ne.symm ne_o1_o15) f_o15
          have f_o1 : H140[o1]? = some (.cells ([.int .i64 a0, .int .i64 a1, .dl 1 (List.map (AV.int .i64) x20) tl21, .dl 1 (List.map (AV.int .i64) x22) tl23, .dl 1 (List.map (AV.int .u64) v11) .none, .dl 1 (List.map (AV.int .u64) x24) tl25, .dl 1 (List.map (AV.int .u64) x26) tl27])) := f9_o1
          simp only [EVA, reduceIte, reduceCtorEq, Nat.reduceLT, Nat.reduceLeDiff, Int.reduceEq, Int.reduceLT, Int.reduceLE, Nat.reduceMul, rs11, h5, eq_true h6, eq_true h7, eq_false h8, eq_false h42, h127, h132, h137, f_o1, f_o15, (show IntKind.i64.wrap 1 = 1 from rfl)]
          obtain rfl := Option.some.inj hg
          exact ⟨_, (wkR.tup (WkA.cons (wkA.agg (by repeat' first | exact Wk.nil | apply Wk.u | apply Wk.r | apply Wk.cons (wkV.tail _ _ _))) (WkA.r WkA.nil))), (hK  _ hE )⟩
        ·have h132 := Bool.eq_false_iff.2 h132
         simp only [EVA, reduceIte, reduceCtorEq, Nat.reduceLT, Nat.reduceLeDiff, Int.reduceEq, Int.reduceLT, Int.reduceLE, Nat.reduceMul, h5, eq_true h6, eq_true h7, eq_false h8, eq_false h42, h127, h132, f_o1, f_o15, (show IntKind.i64.wrap 1 = 1 from rfl)]
         refine eop_store_go (H0 := H) (id := o1) (off := 0) (v := .agg [.int .i64 0, .int .i64 0, .dl 0 [] .full, .dl 0 [] .full, .dl 0 [] .full, .dl 0 [] .full, .dl 0 [] .full]) rfl rfl f_o1 ty33 rfl rfl (Nat.le_of_ble_eq_true rfl) hE g_o1 ?_
         intro H142 hE f9_o1 p143 l9
         have F30 := F30.keep f_o1 p143
         have F31 := F31.keep f_o1 p143
         have F32 := F32.keep f_o1 p143
         have F33 := F33.keep f_o1 p143
         have f_o15 := p143 _ _ (Ne.symm ne_o1_o15) f_o15
         have f_o1 : H142[o1]? = some (.cells ([.int .i64 0, .int .i64 0, .dl 0 [] .full, .dl 0 [] .full, .dl 0 [] .full, .dl 0 [] .full, .dl 0 [] .full])) := f9_o1
         simp only [EVA, reduceIte, reduceCtorEq, Nat.reduceLT, Nat.reduceLeDiff, Int.reduceEq, Int.reduceLT, Int.reduceLE, Nat.reduceMul, rs11, h5, eq_true h6, eq_true h7, eq_false h8, eq_false h42, h127, h132, f_o1, f_o15, (show IntKind.i64.wrap 1 = 1 from rfl)]
         obtain rfl := Option.some.inj hg
         exact ⟨_, (wkR.tup (WkA.cons (wkA.agg (by repeat' first | exact Wk.nil | apply Wk.u | apply Wk.r | apply Wk.cons (wkV.nil _ _ _))) (WkA.r WkA.nil))), (hK  _ hE )⟩
       ·have h127 := Bool.eq_false_iff.2 h127
        simp only [EVA, reduceIte, reduceCtorEq, Nat.reduceLT, Nat.reduceLeDiff, Int.reduceEq, Int.reduceLT, Int.reduceLE, Nat.reduceMul, h5, eq_true h6, eq_true h7, eq_false h8, eq_false h42, h127, f_o1, f_o15, (show IntKind.i64.wrap 1 = 1 from rfl)]
        refine eop_store_go (H0 := H) (id := o1) (off := 0) (v := .agg [.int .i64 0, .int .i64 0, .dl 0 [] .full, .dl 0 [] .full, .dl 0 [] .full, .dl 0 [] .full, .dl 0 [] .full]) rfl rfl f_o1 ty33 rfl rfl (Nat.le_of_ble_eq_true rfl) hE g_o1 ?_
        intro H144 hE f9_o1 p145 l9
        have F30 := F30.keep f_o1 p145
        have F31 := F31.keep f_o1 p145
        have F32 := F32.keep f_o1 p145
        have F33 := F33.keep f_o1 p145
        have f_o15 := p145 _ _ (Ne.symm ne_o1_o15) f_o15
        have f_o1 : H144[o1]? = some (.cells ([.int .i64 0, .int .i64 0, .dl 0 [] .full, .dl 0 [] .full, .dl 0 [] .full, .dl 0 [] .full, .dl 0 [] .full])) := f9_o1
        simp only [EVA, reduceIte, reduceCtorEq, Nat.reduceLT, Nat.reduceLeDiff, Int.reduceEq, Int.reduceLT, Int.reduceLE, Nat.reduceMul, rs11, h5, eq_true h6, eq_true h7, eq_false h8, eq_false h42, h127, f_o1, f_o15, (show IntKind.i64.wrap 1 = 1 from rfl)]
        obtain rfl := Option.some.inj hg
        exact ⟨_, (wkR.tup (WkA.cons (wkA.agg (by repeat' first | exact Wk.nil | apply Wk.u | apply Wk.r | apply Wk.cons (wkV.nil _ _ _))) (WkA.r WkA.nil))), (hK  _ hE )⟩
   ·refine Br.no h7 ?_
    simp only [EVA, reduceIte, reduceCtorEq, Nat.reduceLT, Nat.reduceLeDiff, Int.reduceEq, Int.reduceLT, Int.reduceLE, Nat.reduceMul, h5, eq_true h6, eq_false h7, f_o1, (show IntKind.i64.wrap 1 = 1 from rfl)]
    refine eop_store_go (H0 := H) (id := o1) (off := 0) (v := .agg [.int .i64 0, .int .i64 0, .dl 0 [] .full, .dl 0 [] .full, .dl 0 [] .full, .dl 0 [] .full, .dl 0 [] .full]) rfl rfl f_o1 ty33 rfl rfl (Nat.le_of_ble_eq_true rfl) hE g_o1 ?_
    intro H146 hE f9_o1 p147 l9
    have f_o1 : H146[o1]? = some (.cells ([.int .i64 0, .int .i64 0, .dl 0 [] .full, .dl 0 [] .full, .dl 0 [] .full, .dl 0 [] .full, .dl 0 [] .full])) := f9_o1
    simp only [EVA, reduceIte, reduceCtorEq, Nat.reduceLT, Nat.reduceLeDiff, Int.reduceEq, Int.reduceLT, Int.reduceLE, Nat.reduceMul, rs11, h5, eq_true h6, eq_false h7, f_o1, (show IntKind.i64.wrap 1 = 1 from rfl)]
    obtain rfl := Option.some.inj hg
    exact ⟨_, (wkR.tup (WkA.cons (wkA.agg (by repeat' first | exact Wk.nil | apply Wk.u | apply Wk.r | apply Wk.cons (wkV.nil _ _ _))) (WkA.r WkA.nil))), (hK  _ hE )⟩
  ·refine Br.no h6 ?_
   simp only [EVA, reduceIte, reduceCtorEq, Nat.reduceLT, Nat.reduceLeDiff, Int.reduceEq, Int.reduceLT, Int.reduceLE, Nat.reduceMul, h5, eq_false h6, f_o1, (show IntKind.i64.wrap 1 = 1 from rfl)]
   refine eop_store_go (H0 := H) (id := o1) (off := 0) (v := .agg [.int .i64 0, .int .i64 0, .dl 0 [] .full, .dl 0 [] .full, .dl 0 [] .full, .dl 0 [] .full, .dl 0 [] .full]) rfl rfl f_o1 ty33 rfl rfl (Nat.le_of_ble_eq_true rfl) hE g_o1 ?_
   intro H148 hE f9_o1 p149 l9
   have f_o1 : H148[o1]? = some (.cells ([.int .i64 0, .int .i64 0, .dl 0 [] .full, .dl 0 [] .full, .dl 0 [] .full, .dl 0 [] .full, .dl 0 [] .full])) := f9_o1
   simp only [EVA, reduceIte, reduceCtorEq, Nat.reduceLT, Nat.reduceLeDiff, Int.reduceEq, Int.reduceLT, Int.reduceLE, Nat.reduceMul, rs11, h5, eq_false h6, f_o1, (show IntKind.i64.wrap 1 = 1 from rfl)]
   obtain rfl := Option.some.inj hg
   exact ⟨_, (wkR.tup (WkA.cons (wkA.agg (by repeat' first | exact Wk.nil | apply Wk.u | apply Wk.r | apply Wk.cons (wkV.nil _ _ _))) (WkA.r WkA.nil))), (hK  _ hE )⟩
 ·have h5 := Bool.eq_false_iff.2 h5
  simp only [EVA, reduceIte, reduceCtorEq, Nat.reduceLT, Nat.reduceLeDiff, Int.reduceEq, Int.reduceLT, Int.reduceLE, Nat.reduceMul, h5, f_o1, (show IntKind.i64.wrap 1 = 1 from rfl)]
  refine eop_store_go (H0 := H) (id := o1) (off := 0) (v := .agg [.int .i64 0, .int .i64 0, .dl 0 [] .full, .dl 0 [] .full, .dl 0 [] .full, .dl 0 [] .full, .dl 0 [] .full]) rfl rfl f_o1 ty33 rfl rfl (Nat.le_of_ble_eq_true rfl) hE g_o1 ?_
  intro H150 hE f9_o1 p151 l9
  have f_o1 : H150[o1]? = some (.cells ([.int .i64 0, .int .i64 0, .dl 0 [] .full, .dl 0 [] .full, .dl 0 [] .full, .dl 0 [] .full, .dl 0 [] .full])) := f9_o1
  simp only [EVA, reduceIte, reduceCtorEq, Nat.reduceLT, Nat.reduceLeDiff, Int.reduceEq, Int.reduceLT, Int.reduceLE, Nat.reduceMul, rs11, h5, f_o1, (show IntKind.i64.wrap 1 = 1 from rfl)]
  obtain rfl := Option.some.inj hg
  exact ⟨_, (wkR.tup (WkA.cons (wkA.agg (by repeat' first | exact Wk.nil | apply Wk.u | apply Wk.r | apply Wk.cons (wkV.nil _ _ _))) (WkA.r WkA.nil))), (hK  _ hE )⟩
/-- skymosaic/skymosaiclaw38.proofs -/
def l13_1 (n : Nat) (l13_0_REC : List (List S1) → Int → Option (List (List S1))) (a0 : List (List S1)) (x1 : List (List S1)) (x3 : Int) : Nat → List S1 → Int → Option (List (List S1))
 | 0, _, _ => none
 | k11 + 1, x8, x10 => if (0 : Int) ≤ x3 ∧ x3 < (a0.length : Int) then (if x10 < ((rd a0 x3).length : Int) then (if (0 : Int) ≤ x3 ∧ x3 < (a0.length : Int) then (if (0 : Int) ≤ x10 ∧ x10 < ((rd a0 x3).length : Int) then (if x8.length + 1 ≤ 1599289640401 then ((l13_1 n l13_0_REC a0 x1 x3 k11) (x8 ++ ([(⟨(rd (rd a0 x3) x10).c0, (rd (rd a0 x3) x10).c1, (rd (rd a0 x3) x10).c2, (rd (rd a0 x3) x10).c3, (rd (rd a0 x3) x10).c4, (rd (rd a0 x3) x10).c5, (rd (rd a0 x3) x10).c6⟩ : S1)] : List S1)) (IntKind.i64.wrap (x10 + 1))) else none) else none) else none) else (if x1.length + 1 ≤ 5864062014805 then (l13_0_REC (x1 ++ ([x8] : List (List S1))) (IntKind.i64.wrap (x3 + 1))) else none)) else none
def l13_0 (n : Nat) (a0 : List (List S1)) : Nat → List (List S1) → Int → Option (List (List S1))
 | 0, _, _ => none
 | k4 + 1, x1, x3 => if x3 < (a0.length : Int) then (l13_1 n (l13_0 n a0 k4) a0 x1 x3 n ([] : List S1) 0) else (some x1)
theorem rs13 : Tryz.f13.results.toList = [.tmp 2] := rfl
def g13 (n : Nat) (a0 : List (List S1)) : Option (List (List S1)) := l13_0 n a0 n ([] : List (List S1)) 0
theorem c13 (B : Nat) (w0 : World) (n : Nat) (a0 : List (List S1)) (ta0 : Tail) (H : AHeap) (K : AV → AHeap → Prop) (r : (List (List S1))) (hg : g13 n a0 = some r)  (hK : ∀ (q0 : Tail) (H' : AHeap), Ext H H' → Free H H' q0 → K (.dl 1 (List.map encL3 r) q0) H') : ACall Tryz.prog B w0 13 [.dl 1 (List.map encL3 a0) ta0] H K := by
 refine ACall.wkR ?_
 unfold g13 at hg
 refine ACall.enter Tryz.func13 (by kernel_rfl) rfl (eawp_sound noY_sound _ _ _ _ ?_)
 have hE : Ext H H := Ext.refl H
 simp only [EVA, reduceIte, reduceCtorEq, Nat.reduceLT, Nat.reduceLeDiff, Int.reduceEq, Int.reduceLT, Int.reduceLE, Nat.reduceMul, Tryz.ntmps13, rs13, (show IntKind.i64.wrap 1 = 1 from rfl)]
 refine AWP.loop (σ := Nat × List (List S1) × Int × Tail) (fun s => [.dl 1 (List.map encL3 a0) ta0, .undef, .undef, .dl 1 (List.map encL3 s.2.1) s.2.2.2, .int .i64 s.2.2.1, .undef, .undef, .undef, .undef, .undef, .undef, .undef, .undef, .undef, .undef, .undef, .undef, .undef, .undef, .undef, .undef, .undef, .undef, .undef, .undef, .undef, .undef, .undef, .undef, .undef, .undef, .undef, .undef, .undef, .undef, .undef, .undef, .undef, .undef, .undef, .undef, .undef, .undef, .undef, .undef, .undef, .undef, .undef, .undef]) (fun s H' => l13_0 n a0 s.1 s.2.1 s.2.2.1 = some r ∧ Ext H H' ∧ Free H H' s.2.2.2) (fun s => s.1) ⟨⟨n, ([] : List (List S1)), 0, .full⟩, (by repeat' first | exact Wk.nil | apply Wk.u | apply Wk.r | apply Wk.cons (wkV.nilf _ _)), ⟨hg, hE, (Free.full _ _)⟩⟩ ?_
 rintro ⟨k4, x1, x3, tl2⟩ H5 ⟨hg, hE, F6⟩ _
 try dsimp only at hg F6
 cases k4 with
 | zero => simp only [l13_0, reduceCtorEq] at hg
 | succ k4 =>
  rw [l13_0] at hg
  refine eawp_sound noY_sound _ _ _ _ ?_
  simp only [EVA, reduceIte, reduceCtorEq, Nat.reduceLT, Nat.reduceLeDiff, Int.reduceEq, Int.reduceLT, Int.reduceLE, Nat.reduceMul, (show IntKind.i64.wrap 1 = 1 from rfl)]
  rcases ite_some hg with ⟨h7, hg⟩ | ⟨h7, hg⟩
  ·refine Br.yes h7 ?_
   simp only [EVA, reduceIte, reduceCtorEq, Nat.reduceLT, Nat.reduceLeDiff, Int.reduceEq, Int.reduceLT, Int.reduceLE, Nat.reduceMul, eq_true h7, (show IntKind.i64.wrap 1 = 1 from rfl)]
   refine AWP.loop (σ := Nat × List S1 × Int × Tail) (fun s => [.dl 1 (List.map encL3 a0) ta0, .undef, .undef, .dl 1 (List.map encL3 x1) tl2, .int .i64 x3, .dl 7 (List.map encS1 s.2.1) s.2.2.2, .int .i64 s.2.2.1, .undef, .undef, .undef, .undef, .undef, .undef, .undef, .undef, .undef, .undef, .undef, .undef, .undef, .undef, .undef, .undef, .undef, .undef, .undef, .undef, .undef, .undef, .undef, .undef, .undef, .undef, .undef, .undef, .undef, .undef, .undef, .undef, .undef, .undef, .undef, .undef, .undef, .undef, .undef, .undef, .undef, .undef]) (fun s H' => l13_1 n (l13_0 n a0 k4) a0 x1 x3 s.1 s.2.1 s.2.2.1 = some r ∧ Ext H H' ∧ Free H H' tl2 ∧ Free H H' s.2.2.2 ∧ tlNe tl2 s.2.2.2) (fun s => s.1) ⟨⟨n, ([] : List S1), 0, .full⟩, (by repeat' first | exact Wk.nil | apply Wk.u | apply Wk.r | apply Wk.cons (wkV.nilf _ _)), ⟨hg, hE, F6, (Free.full _ _), (tlNe.full' _)⟩⟩ ?_
   rintro ⟨k11, x8, x10, tl9⟩ H12 ⟨hg, hE, F13, F14, D15⟩ _
   try dsimp only at hg F13 F14 D15
   cases k11 with
   | zero => simp only [l13_1, reduceCtorEq] at hg
   | succ k11 =>
    rw [l13_1] at hg
    refine eawp_sound noY_sound _ _ _ _ ?_
    obtain ⟨h16, hg⟩ := guard_some hg
    have q17 : List.getD (List.map encL3 a0) (Int.toNat x3) AV.undef = encL3 (rd a0 x3) := rd_map (l := a0) (i := x3) encL3 h16
    simp only [EVA, reduceIte, reduceCtorEq, Nat.reduceLT, Nat.reduceLeDiff, Int.reduceEq, Int.reduceLT, Int.reduceLE, Nat.reduceMul, eq_true h7, eq_true h16.1, eq_true h16.2, q17, (show IntKind.i64.wrap 1 = 1 from rfl)]
    rcases ite_some hg with ⟨h18, hg⟩ | ⟨h18, hg⟩
    ·refine Br.yes h18 ?_
     obtain ⟨h19, hg⟩ := guard_some hg
     have q20 : List.getD (List.map encL3 a0) (Int.toNat x3) AV.undef = encL3 (rd a0 x3) := rd_map (l := a0) (i := x3) encL3 h19
     obtain ⟨h21, hg⟩ := guard_some hg
     have q22 : List.getD (List.map encS1 (rd a0 x3)) (Int.toNat x10) AV.undef = encS1 (rd (rd a0 x3) x10) := rd_map (l := rd a0 x3) (i := x10) encS1 h21
     simp only [EVA, reduceIte, reduceCtorEq, Nat.reduceLT, Nat.reduceLeDiff, Int.reduceEq, Int.reduceLT, Int.reduceLE, Nat.reduceMul, eq_true h7, eq_true h16.1, eq_true h16.2, q17, eq_true h18, eq_true h19.1, eq_true h19.2, q20, eq_true h21.1, eq_true h21.2, q22, (show IntKind.i64.wrap 1 = 1 from rfl)]
     refine eop_alloc_go (H0 := H) ty57 rfl rfl hE ?_
     intro o23 H24 hE xo23 g_o23 f_o23 n_o23
     have F13 := F13.mono xo23
     have F14 := F14.mono xo23
     have f_o23 : H24[o23]? = some (.cells ([.int .i64 0, .int .i64 0, .int .i64 0, .int .u64 0, .dl 0 [] .full, .dl 0 [] .full, .int .u64 0])) := f_o23
     simp only [EVA, reduceIte, reduceCtorEq, Nat.reduceLT, Nat.reduceLeDiff, Int.reduceEq, Int.reduceLT, Int.reduceLE, Nat.reduceMul, eq_true h7, eq_true h16.1, eq_true h16.2, q17, eq_true h18, eq_true h19.1, eq_true h19.2, q20, eq_true h21.1, eq_true h21.2, q22, f_o23, (show IntKind.i64.wrap 1 = 1 from rfl)]
     refine eop_store_go (H0 := H) (id := o23) (off := 0) (v := .agg [.int .i64 ((rd (rd a0 x3) x10).c0), .int .i64 ((rd (rd a0 x3) x10).c1), .int .i64 ((rd (rd a0 x3) x10).c2), .int .u64 ((rd (rd a0 x3) x10).c3), .dl 1 (List.map (AV.int .u64) ((rd (rd a0 x3) x10).c4)) .none, .dl 1 (List.map (AV.int .u64) ((rd (rd a0 x3) x10).c5)) .none, .int .u64 ((rd (rd a0 x3) x10).c6)]) rfl rfl f_o23 ty57 rfl rfl (Nat.le_of_ble_eq_true rfl) hE g_o23 ?_
     intro H25 hE f9_o23 p26 l9
     have F13 := F13.keep f_o23 p26
     have F14 := F14.keep f_o23 p26
     have f_o23 : H25[o23]? = some (.cells ([.int .i64 ((rd (rd a0 x3) x10).c0), .int .i64 ((rd (rd a0 x3) x10).c1), .int .i64 ((rd (rd a0 x3) x10).c2), .int .u64 ((rd (rd a0 x3) x10).c3), .dl 1 (List.map (AV.int .u64) ((rd (rd a0 x3) x10).c4)) .none, .dl 1 (List.map (AV.int .u64) ((rd (rd a0 x3) x10).c5)) .none, .int .u64 ((rd (rd a0 x3) x10).c6)])) := f9_o23
     simp only [EVA, reduceIte, reduceCtorEq, Nat.reduceLT, Nat.reduceLeDiff, Int.reduceEq, Int.reduceLT, Int.reduceLE, Nat.reduceMul, eq_true h7, eq_true h16.1, eq_true h16.2, q17, eq_true h18, eq_true h19.1, eq_true h19.2, q20, eq_true h21.1, eq_true h21.2, q22, f_o23, (show IntKind.i64.wrap 1 = 1 from rfl)]
     obtain ⟨h32, hg⟩ := guard_some hg
     refine AppE.goM (H0 := H) encS1 x8 ([(⟨(rd (rd a0 x3) x10).c0, (rd (rd a0 x3) x10).c1, (rd (rd a0 x3) x10).c2, (rd (rd a0 x3) x10).c3, (rd (rd a0 x3) x10).c4, (rd (rd a0 x3) x10).c5, (rd (rd a0 x3) x10).c6⟩ : S1)] : List S1) (n := 1599289640401) ty63 rfl ty64 rfl rfl (by decide) (.dl 7 [.agg [.int .i64 ((rd (rd a0 x3) x10).c0), .int .i64 ((rd (rd a0 x3) x10).c1), .int .i64 ((rd (rd a0 x3) x10).c2), .int .u64 ((rd (rd a0 x3) x10).c3), .dl 1 (List.map (AV.int .u64) ((rd (rd a0 x3) x10).c4)) .none, .dl 1 (List.map (AV.int .u64) ((rd (rd a0 x3) x10).c5)) .none, .int .u64 ((rd (rd a0 x3) x10).c6)]] .full) (wkD.refl _) (srcA_dl ty63 rfl) (.inl rfl) h32 (by decide) (by decide) hE F14 ?_
     intro tl27 H28 hE F29 p30 q31 l9
     have f_o23 := p30 _ _ (cnt _) f_o23
     obtain ⟨F13, D33⟩ := q31 _ F13 D15.symm
     simp only [EVA, reduceIte, reduceCtorEq, Nat.reduceLT, Nat.reduceLeDiff, Int.reduceEq, Int.reduceLT, Int.reduceLE, Nat.reduceMul, eq_true h7, eq_true h16.1, eq_true h16.2, q17, eq_true h18, eq_true h19.1, eq_true h19.2, q20, eq_true h21.1, eq_true h21.2, q22, f_o23, (show IntKind.i64.wrap 1 = 1 from rfl)]
     exact ⟨⟨k11, x8 ++ ([(⟨(rd (rd a0 x3) x10).c0, (rd (rd a0 x3) x10).c1, (rd (rd a0 x3) x10).c2, (rd (rd a0 x3) x10).c3, (rd (rd a0 x3) x10).c4, (rd (rd a0 x3) x10).c5, (rd (rd a0 x3) x10).c6⟩ : S1)] : List S1), IntKind.i64.wrap (x10 + 1), tl27⟩, (by repeat' first | exact Wk.nil | apply Wk.u | apply Wk.r), ⟨hg, hE, F13, F29, D33.symm⟩, Nat.lt_succ_self _⟩
    ·refine Br.no h18 ?_
     simp only [EVA, reduceIte, reduceCtorEq, Nat.reduceLT, Nat.reduceLeDiff, Int.reduceEq, Int.reduceLT, Int.reduceLE, Nat.reduceMul, eq_true h7, eq_true h16.1, eq_true h16.2, q17, eq_false h18, (show IntKind.i64.wrap 1 = 1 from rfl)]
     obtain ⟨h39, hg⟩ := guard_some hg
     refine AppE.goM (H0 := H) encL3 x1 ([x8] : List (List S1)) (n := 5864062014805) ty39 rfl ty63 rfl rfl (by decide) (.dl 1 [.dl 7 (List.map encS1 x8) .none] .full) (wkD.one rfl (by repeat' first | exact Wk.nil | apply Wk.u | apply Wk.r | apply Wk.cons (wkV.tail _ _ _))) (srcA_dl ty39 rfl) (.inl rfl) h39 (by decide) (by decide) hE F13 ?_
     intro tl34 H35 hE F36 p37 q38 l9
     obtain ⟨F14, D40⟩ := q38 _ F14 D15
     simp only [EVA, reduceIte, reduceCtorEq, Nat.reduceLT, Nat.reduceLeDiff, Int.reduceEq, Int.reduceLT, Int.reduceLE, Nat.reduceMul, eq_true h7, eq_true h16.1, eq_true h16.2, q17, eq_false h18, (show IntKind.i64.wrap 1 = 1 from rfl)]
     exact ⟨⟨k4, x1 ++ ([x8] : List (List S1)), IntKind.i64.wrap (x3 + 1), tl34⟩, (by repeat' first | exact Wk.nil | apply Wk.u | apply Wk.r), ⟨hg, hE, F36⟩, Nat.lt_succ_self _⟩
  ·refine Br.no h7 ?_
   simp only [EVA, reduceIte, reduceCtorEq, Nat.reduceLT, Nat.reduceLeDiff, Int.reduceEq, Int.reduceLT, Int.reduceLE, Nat.reduceMul, rs13, eq_false h7, (show IntKind.i64.wrap 1 = 1 from rfl)]
   obtain rfl := Option.some.inj hg
   exact ⟨_, (wkR.a (wkA.refl _)), (hK tl2 _ hE F6)⟩
end Go.Av
end
