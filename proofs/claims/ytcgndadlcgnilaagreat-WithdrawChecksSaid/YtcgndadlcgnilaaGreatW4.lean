/- the walks, part 4 -/
import Derived.Test.YtcgndadlcgnilaaGreatA28
import Derived.Test.YtcgndadlcgnilaaGreatW3
set_option autoImplicit false
set_option linter.unusedSimpArgs false
set_option linter.unusedVariables false
set_option linter.unnecessarySimpa false
section
set_option maxHeartbeats 1000000
set_option maxRecDepth 10000
namespace Go.Av
open Go.Proofs
/-- skymosaic/proof.Encode -/
theorem rs48 : Tryz.f48.results.toList = [.tmp 2] := rfl
def g48 (n : Nat) (a0 : S1) : Option (List Int) := (g49 n (⟨([] : List Int)⟩ : S5) a0.c0).bind fun v7 => (g49 n (⟨v7.c0⟩ : S5) a0.c1).bind fun v13 => (g49 n (⟨v13.c0⟩ : S5) a0.c2).bind fun v19 => (g80 n (⟨v19.c0⟩ : S5) a0.c3).bind fun v25 => (g81 n (⟨v25.c0⟩ : S5) a0.c4).bind fun v31 => (g81 n (⟨v31.c0⟩ : S5) a0.c5).bind fun v37 => (g80 n (⟨v37.c0⟩ : S5) a0.c6).bind fun v43 => (g52 n (⟨v43.c0⟩ : S5)).bind fun v49 => some v49
theorem c48 (B : Nat) (w0 : World) (n : Nat) (a0 : S1) (H : AHeap) (K : AV → AHeap → Prop) (r : (List Int)) (hg : g48 n a0 = some r)  (hK : ∀ (q0 : Tail) (H' : AHeap), Ext H H' → Free H H' q0 → K (.dl 1 (List.map (AV.int .u8) r) q0) H') : ACall Tryz.prog B w0 48 [.agg [.int .i64 a0.c0, .int .i64 a0.c1, .int .i64 a0.c2, .int .u64 a0.c3, .dl 1 (List.map (AV.int .u64) a0.c4) .none, .dl 1 (List.map (AV.int .u64) a0.c5) .none, .int .u64 a0.c6]] H K := by
 refine ACall.wkR ?_
 unfold g48 at hg
 refine ACall.enter Tryz.func48 (by kernel_rfl) rfl (eawp_sound noY_sound _ _ _ _ ?_)
 have hE : Ext H H := Ext.refl H
 simp only [EVA, reduceIte, reduceCtorEq, Tryz.ntmps48, rs48]
 refine eop_box_go (H0 := H) (v := .agg [.int .i64 a0.c0, .int .i64 a0.c1, .int .i64 a0.c2, .int .u64 a0.c3, .dl 1 (List.map (AV.int .u64) a0.c4) .none, .dl 1 (List.map (AV.int .u64) a0.c5) .none, .int .u64 a0.c6]) rfl rfl hE ?_
 intro o1 H2 hE xo1 g_o1 f_o1 n_o1
 have f_o1 : H2[o1]? = some (.cells ([.int .i64 a0.c0, .int .i64 a0.c1, .int .i64 a0.c2, .int .u64 a0.c3, .dl 1 (List.map (AV.int .u64) a0.c4) .none, .dl 1 (List.map (AV.int .u64) a0.c5) .none, .int .u64 a0.c6])) := f_o1
 simp only [EVA, reduceIte, reduceCtorEq, f_o1]
 refine eop_alloc_go (H0 := H) ty102 rfl rfl hE ?_
 intro o3 H4 hE xo3 g_o3 f_o3 n_o3
 have ne_o1_o3 := n_o3 _ _ f_o1
 have f_o1 := xo3.2 _ _ f_o1
 have f_o3 : H4[o3]? = some (.cells ([.dl 0 [] .full])) := f_o3
 simp only [EVA, reduceIte, reduceCtorEq, f_o1, f_o3]
 refine ACall.wkGo (H0 := H) (cs' := [.dl 1 [] .full]) f_o3 (by repeat' first | exact Wk.nil | apply Wk.u | apply Wk.r | apply Wk.cons (wkV.nilf _ _)) hE g_o3 ?_
 intro H5 hE f9_o3 p6 l9
 have f_o1 := p6 _ _ ne_o1_o3 f_o1
 have f_o3 : H5[o3]? = some (.cells ([.dl 1 [] .full])) := f9_o3
 obtain ⟨v7, ch8, hg⟩ := bind_some hg
 refine ACall.wkA (args := [.ptr o3 0, .int .i64 a0.c0]) (c49 B w0 n (⟨([] : List Int)⟩ : S5) a0.c0 .full o3 ((o1, .cells ([.int .i64 a0.c0, .int .i64 a0.c1, .int .i64 a0.c2, .int .u64 a0.c3, .dl 1 (List.map (AV.int .u64) a0.c4) .none, .dl 1 (List.map (AV.int .u64) a0.c5) .none, .int .u64 a0.c6])) :: []) ([]) H _ _ v7 ch8 hE g_o3 f_o3 (Nf.cons ne_o1_o3 (Nf.nil _)) (Free.full _ _) (Dt.nil _) (FrObj.cons f_o1 (cnt _) (FrObj.nil _)) (FrTl.nil _ _) ?_) (WkA.r (WkA.r WkA.nil))
 intro tl10 H9 hE f9_o3 F11 dt12 hfo9 hft9
 have f_o3 : H9[o3]? = some (.cells ([.dl 1 (List.map (AV.int .u8) v7.c0) tl10])) := f9_o3
 have f_o1 := hfo9.head
 have hfo9 := hfo9.tail
 simp only [EVA, reduceIte, reduceCtorEq, f_o1, f_o3]
 obtain ⟨v13, ch14, hg⟩ := bind_some hg
 refine ACall.wkA (args := [.ptr o3 0, .int .i64 a0.c1]) (c49 B w0 n (⟨v7.c0⟩ : S5) a0.c1 tl10 o3 ((o1, .cells ([.int .i64 a0.c0, .int .i64 a0.c1, .int .i64 a0.c2, .int .u64 a0.c3, .dl 1 (List.map (AV.int .u64) a0.c4) .none, .dl 1 (List.map (AV.int .u64) a0.c5) .none, .int .u64 a0.c6])) :: []) ([]) H _ _ v13 ch14 hE g_o3 f_o3 (Nf.cons ne_o1_o3 (Nf.nil _)) F11 (Dt.nil _) (FrObj.cons f_o1 (cnt _) (FrObj.nil _)) (FrTl.nil _ _) ?_) (WkA.r (WkA.r WkA.nil))
 intro tl16 H15 hE f9_o3 F17 dt18 hfo9 hft9
 have f_o3 : H15[o3]? = some (.cells ([.dl 1 (List.map (AV.int .u8) v13.c0) tl16])) := f9_o3
 have f_o1 := hfo9.head
 have hfo9 := hfo9.tail
 simp only [EVA, reduceIte, reduceCtorEq, f_o1, f_o3]
 obtain ⟨v19, ch20, hg⟩ := bind_some hg
 refine ACall.wkA (args := [.ptr o3 0, .int .i64 a0.c2]) (c49 B w0 n (⟨v13.c0⟩ : S5) a0.c2 tl16 o3 ((o1, .cells ([.int .i64 a0.c0, .int .i64 a0.c1, .int .i64 a0.c2, .int .u64 a0.c3, .dl 1 (List.map (AV.int .u64) a0.c4) .none, .dl 1 (List.map (AV.int .u64) a0.c5) .none, .int .u64 a0.c6])) :: []) ([]) H _ _ v19 ch20 hE g_o3 f_o3 (Nf.cons ne_o1_o3 (Nf.nil _)) F17 (Dt.nil _) (FrObj.cons f_o1 (cnt _) (FrObj.nil _)) (FrTl.nil _ _) ?_) (WkA.r (WkA.r WkA.nil))
 intro tl22 H21 hE f9_o3 F23 dt24 hfo9 hft9
 have f_o3 : H21[o3]? = some (.cells ([.dl 1 (List.map (AV.int .u8) v19.c0) tl22])) := f9_o3
 have f_o1 := hfo9.head
 have hfo9 := hfo9.tail
 simp only [EVA, reduceIte, reduceCtorEq, f_o1, f_o3]
 obtain ⟨v25, ch26, hg⟩ := bind_some hg
 refine ACall.wkA (args := [.ptr o3 0, .int .u64 a0.c3]) (c80 B w0 n (⟨v19.c0⟩ : S5) a0.c3 tl22 o3 ((o1, .cells ([.int .i64 a0.c0, .int .i64 a0.c1, .int .i64 a0.c2, .int .u64 a0.c3, .dl 1 (List.map (AV.int .u64) a0.c4) .none, .dl 1 (List.map (AV.int .u64) a0.c5) .none, .int .u64 a0.c6])) :: []) ([]) H _ _ v25 ch26 hE g_o3 f_o3 (Nf.cons ne_o1_o3 (Nf.nil _)) F23 (Dt.nil _) (FrObj.cons f_o1 (cnt _) (FrObj.nil _)) (FrTl.nil _ _) ?_) (WkA.r (WkA.r WkA.nil))
 intro tl28 H27 hE f9_o3 F29 dt30 hfo9 hft9
 have f_o3 : H27[o3]? = some (.cells ([.dl 1 (List.map (AV.int .u8) v25.c0) tl28])) := f9_o3
 have f_o1 := hfo9.head
 have hfo9 := hfo9.tail
 simp only [EVA, reduceIte, reduceCtorEq, f_o1, f_o3]
 obtain ⟨v31, ch32, hg⟩ := bind_some hg
 refine ACall.wkA (args := [.ptr o3 0, .dl 1 (List.map (AV.int .u64) a0.c4) .none]) (c81 B w0 n (⟨v25.c0⟩ : S5) a0.c4 .none tl28 o3 ((o1, .cells ([.int .i64 a0.c0, .int .i64 a0.c1, .int .i64 a0.c2, .int .u64 a0.c3, .dl 1 (List.map (AV.int .u64) a0.c4) .none, .dl 1 (List.map (AV.int .u64) a0.c5) .none, .int .u64 a0.c6])) :: []) ([]) H _ _ v31 ch32 hE g_o3 f_o3 (Nf.cons ne_o1_o3 (Nf.nil _)) F29 (Dt.nil _) (FrObj.cons f_o1 (cnt _) (FrObj.nil _)) (FrTl.nil _ _) ?_) (WkA.r (WkA.r WkA.nil))
 intro tl34 H33 hE f9_o3 F35 dt36 hfo9 hft9
 have f_o3 : H33[o3]? = some (.cells ([.dl 1 (List.map (AV.int .u8) v31.c0) tl34])) := f9_o3
 have f_o1 := hfo9.head
 have hfo9 := hfo9.tail
 simp only [EVA, reduceIte, reduceCtorEq, f_o1, f_o3]
 obtain ⟨v37, ch38, hg⟩ := bind_some hg
 refine ACall.wkA (args := [.ptr o3 0, .dl 1 (List.map (AV.int .u64) a0.c5) .none]) (c81 B w0 n (⟨v31.c0⟩ : S5) a0.c5 .none tl34 o3 ((o1, .cells ([.int .i64 a0.c0, .int .i64 a0.c1, .int .i64 a0.c2, .int .u64 a0.c3, .dl 1 (List.map (AV.int .u64) a0.c4) .none, .dl 1 (List.map (AV.int .u64) a0.c5) .none, .int .u64 a0.c6])) :: []) ([]) H _ _ v37 ch38 hE g_o3 f_o3 (Nf.cons ne_o1_o3 (Nf.nil _)) F35 (Dt.nil _) (FrObj.cons f_o1 (cnt _) (FrObj.nil _)) (FrTl.nil _ _) ?_) (WkA.r (WkA.r WkA.nil))
 intro tl40 H39 hE f9_o3 F41 dt42 hfo9 hft9
 have f_o3 : H39[o3]? = some (.cells ([.dl 1 (List.map (AV.int .u8) v37.c0) tl40])) := f9_o3
 have f_o1 := hfo9.head
 have hfo9 := hfo9.tail
 simp only [EVA, reduceIte, reduceCtorEq, f_o1, f_o3]
 obtain ⟨v43, ch44, hg⟩ := bind_some hg
 refine ACall.wkA (args := [.ptr o3 0, .int .u64 a0.c6]) (c80 B w0 n (⟨v37.c0⟩ : S5) a0.c6 tl40 o3 ((o1, .cells ([.int .i64 a0.c0, .int .i64 a0.c1, .int .i64 a0.c2, .int .u64 a0.c3, .dl 1 (List.map (AV.int .u64) a0.c4) .none, .dl 1 (List.map (AV.int .u64) a0.c5) .none, .int .u64 a0.c6])) :: []) ([]) H _ _ v43 ch44 hE g_o3 f_o3 (Nf.cons ne_o1_o3 (Nf.nil _)) F41 (Dt.nil _) (FrObj.cons f_o1 (cnt _) (FrObj.nil _)) (FrTl.nil _ _) ?_) (WkA.r (WkA.r WkA.nil))
 intro tl46 H45 hE f9_o3 F47 dt48 hfo9 hft9
 have f_o3 : H45[o3]? = some (.cells ([.dl 1 (List.map (AV.int .u8) v43.c0) tl46])) := f9_o3
 have f_o1 := hfo9.head
 have hfo9 := hfo9.tail
 simp only [EVA, reduceIte, reduceCtorEq, f_o1, f_o3]
 obtain ⟨v49, ch50, hg⟩ := bind_some hg
 refine ACall.wkA (args := [.ptr o3 0]) (c52 B w0 n (⟨v43.c0⟩ : S5) tl46 o3 _ _ v49 ch50 f_o3 ?_) (WkA.r WkA.nil)
 intro tl51 H52 x53 F54
 have D55 := Free.ne F47 F54
 have F47 := F47.mono x53
 have F54 := F54.low hE
 have f_o1 := x53.2 _ _ f_o1
 have f_o3 := x53.2 _ _ f_o3
 have hE := hE.trans x53
 simp only [EVA, reduceIte, reduceCtorEq, rs48, f_o1, f_o3]
 obtain rfl := Option.some.inj hg
 exact ⟨_, (wkR.a (wkA.refl _)), (hK tl51 _ hE F54)⟩
/-- skymosaic/withdraw.Sum -/
def l23_0 (n : Nat) (a0 : List S1) : Nat → Int → Int → Option (Int)
 | 0, _, _ => none
 | k7 + 1, x5, x6 => if x6 < (a0.length : Int) then (if (0 : Int) ≤ x6 ∧ x6 < (a0.length : Int) then ((g48 n (⟨(rd a0 x6).c0, (rd a0 x6).c1, (rd a0 x6).c2, (rd a0 x6).c3, (rd a0 x6).c4, (rd a0 x6).c5, (rd a0 x6).c6⟩ : S1)).bind fun v16 => (g47 n ([112, 114, 111, 111, 102]) v16).bind fun v22 => (g46 n x5 v22).bind fun v26 => (l23_0 n a0 k7) v26 (IntKind.i64.wrap (x6 + 1))) else none) else (some x5)
theorem rs23 : Tryz.f23.results.toList = [.tmp 2] := rfl
def g23 (n : Nat) (a0 : List S1) : Option (Int) := (g45 n ([112, 114, 111, 111, 102, 115]) ([(a0.length : Int)] : List Int)).bind fun v1 => l23_0 n a0 n v1 0
theorem c23 (B : Nat) (w0 : World) (n : Nat) (a0 : List S1) (ta0 : Tail) (H : AHeap) (K : AV → AHeap → Prop) (r : (Int)) (hg : g23 n a0 = some r)  (hK : ∀ (H' : AHeap), Ext H H' → K (.int .u64 r) H') : ACall Tryz.prog B w0 23 [.dl 7 (List.map encS1 a0) ta0] H K := by
 unfold g23 at hg
 refine ACall.enter Tryz.func23 (by kernel_rfl) rfl (eawp_sound noY_sound _ _ _ _ ?_)
 have hE : Ext H H := Ext.refl H
 simp only [EVA, reduceIte, reduceCtorEq, Nat.reduceLT, Nat.reduceLeDiff, Int.reduceEq, Int.reduceLT, Int.reduceLE, Nat.reduceMul, Tryz.ntmps23, rs23, (show IntKind.i64.wrap 1 = 1 from rfl)]
 obtain ⟨v1, ch2, hg⟩ := bind_some hg
 refine ACall.wkA (args := [.str ([112, 114, 111, 111, 102, 115]), .dl 1 (List.map (AV.int .i64) ([(a0.length : Int)] : List Int)) .full]) (c45 B w0 n ([112, 114, 111, 111, 102, 115]) ([(a0.length : Int)] : List Int) .full _ _ v1 ch2  ?_) (WkA.r (WkA.r WkA.nil))
 intro H3 x4
 have hE := hE.trans x4
 simp only [EVA, reduceIte, reduceCtorEq, Nat.reduceLT, Nat.reduceLeDiff, Int.reduceEq, Int.reduceLT, Int.reduceLE, Nat.reduceMul, (show IntKind.i64.wrap 1 = 1 from rfl)]
 refine AWP.loop (σ := Nat × Int × Int) (fun s => [.undef, .undef, .undef, .int .u64 s.2.1, .undef, .undef, .undef, .undef, .undef, .undef, .dl 7 (List.map encS1 a0) ta0, .int .i64 (a0.length : Int), .int .i64 s.2.2, .undef, .undef, .undef, .undef, .undef, .undef, .undef, .undef, .undef, .undef]) (fun s H' => l23_0 n a0 s.1 s.2.1 s.2.2 = some r ∧ Ext H H') (fun s => s.1) ⟨⟨n, v1, 0⟩, (by repeat' first | exact Wk.nil | apply Wk.u | apply Wk.r), ⟨hg, hE⟩⟩ ?_
 rintro ⟨k7, x5, x6⟩ H8 ⟨hg, hE⟩ _
 try dsimp only at hg
 cases k7 with
 | zero => simp only [l23_0, reduceCtorEq] at hg
 | succ k7 =>
  rw [l23_0] at hg
  refine eawp_sound noY_sound _ _ _ _ ?_
  simp only [EVA, reduceIte, reduceCtorEq, Nat.reduceLT, Nat.reduceLeDiff, Int.reduceEq, Int.reduceLT, Int.reduceLE, Nat.reduceMul, (show IntKind.i64.wrap 1 = 1 from rfl)]
  rcases ite_some hg with ⟨h9, hg⟩ | ⟨h9, hg⟩
  ·refine Br.yes h9 ?_
   obtain ⟨h10, hg⟩ := guard_some hg
   have q11 : List.getD (List.map encS1 a0) (Int.toNat x6) AV.undef = encS1 (rd a0 x6) := rd_map (l := a0) (i := x6) encS1 h10
   simp only [EVA, reduceIte, reduceCtorEq, Nat.reduceLT, Nat.reduceLeDiff, Int.reduceEq, Int.reduceLT, Int.reduceLE, Nat.reduceMul, eq_true h9, eq_true h10.1, eq_true h10.2, q11, (show IntKind.i64.wrap 1 = 1 from rfl)]
   refine eop_alloc_go (H0 := H) ty64 rfl rfl hE ?_
   intro o12 H13 hE xo12 g_o12 f_o12 n_o12
   have f_o12 : H13[o12]? = some (.cells ([.int .i64 0, .int .i64 0, .int .i64 0, .int .u64 0, .dl 0 [] .full, .dl 0 [] .full, .int .u64 0])) := f_o12
   simp only [EVA, reduceIte, reduceCtorEq, Nat.reduceLT, Nat.reduceLeDiff, Int.reduceEq, Int.reduceLT, Int.reduceLE, Nat.reduceMul, eq_true h9, eq_true h10.1, eq_true h10.2, q11, f_o12, (show IntKind.i64.wrap 1 = 1 from rfl)]
   refine eop_store_go (H0 := H) (id := o12) (off := 0) (v := .agg [.int .i64 ((rd a0 x6).c0), .int .i64 ((rd a0 x6).c1), .int .i64 ((rd a0 x6).c2), .int .u64 ((rd a0 x6).c3), .dl 1 (List.map (AV.int .u64) ((rd a0 x6).c4)) .none, .dl 1 (List.map (AV.int .u64) ((rd a0 x6).c5)) .none, .int .u64 ((rd a0 x6).c6)]) rfl rfl f_o12 ty64 rfl rfl (Nat.le_of_ble_eq_true rfl) hE g_o12 ?_
   intro H14 hE f9_o12 p15 l9
   have f_o12 : H14[o12]? = some (.cells ([.int .i64 ((rd a0 x6).c0), .int .i64 ((rd a0 x6).c1), .int .i64 ((rd a0 x6).c2), .int .u64 ((rd a0 x6).c3), .dl 1 (List.map (AV.int .u64) ((rd a0 x6).c4)) .none, .dl 1 (List.map (AV.int .u64) ((rd a0 x6).c5)) .none, .int .u64 ((rd a0 x6).c6)])) := f9_o12
   simp only [EVA, reduceIte, reduceCtorEq, Nat.reduceLT, Nat.reduceLeDiff, Int.reduceEq, Int.reduceLT, Int.reduceLE, Nat.reduceMul, eq_true h9, eq_true h10.1, eq_true h10.2, q11, f_o12, (show IntKind.i64.wrap 1 = 1 from rfl)]
   obtain ⟨v16, ch17, hg⟩ := bind_some hg
   refine ACall.wkA (args := [.agg [.int .i64 ((rd a0 x6).c0), .int .i64 ((rd a0 x6).c1), .int .i64 ((rd a0 x6).c2), .int .u64 ((rd a0 x6).c3), .dl 1 (List.map (AV.int .u64) ((rd a0 x6).c4)) .none, .dl 1 (List.map (AV.int .u64) ((rd a0 x6).c5)) .none, .int .u64 ((rd a0 x6).c6)]]) (c48 B w0 n (⟨(rd a0 x6).c0, (rd a0 x6).c1, (rd a0 x6).c2, (rd a0 x6).c3, (rd a0 x6).c4, (rd a0 x6).c5, (rd a0 x6).c6⟩ : S1) _ _ v16 ch17  ?_) (WkA.cons (wkA.agg (by repeat' first | exact Wk.nil | apply Wk.u | apply Wk.r)) WkA.nil)
   intro tl18 H19 x20 F21
   have F21 := F21.low hE
   have f_o12 := x20.2 _ _ f_o12
   have hE := hE.trans x20
   simp only [EVA, reduceIte, reduceCtorEq, Nat.reduceLT, Nat.reduceLeDiff, Int.reduceEq, Int.reduceLT, Int.reduceLE, Nat.reduceMul, eq_true h9, eq_true h10.1, eq_true h10.2, q11, f_o12, (show IntKind.i64.wrap 1 = 1 from rfl)]
   obtain ⟨v22, ch23, hg⟩ := bind_some hg
   refine ACall.wkA (args := [.str ([112, 114, 111, 111, 102]), .dl 1 (List.map (AV.int .u8) v16) tl18]) (c47 B w0 n ([112, 114, 111, 111, 102]) v16 tl18 _ _ v22 ch23  ?_) (WkA.r (WkA.r WkA.nil))
   intro H24 x25
   have F21 := F21.mono x25
   have f_o12 := x25.2 _ _ f_o12
   have hE := hE.trans x25
   simp only [EVA, reduceIte, reduceCtorEq, Nat.reduceLT, Nat.reduceLeDiff, Int.reduceEq, Int.reduceLT, Int.reduceLE, Nat.reduceMul, eq_true h9, eq_true h10.1, eq_true h10.2, q11, f_o12, (show IntKind.i64.wrap 1 = 1 from rfl)]
   obtain ⟨v26, ch27, hg⟩ := bind_some hg
   refine ACall.wkA (args := [.int .u64 x5, .int .u64 v22]) (c46 B w0 n x5 v22 _ _ v26 ch27  ?_) (WkA.r (WkA.r WkA.nil))
   intro H28 x29
   have F21 := F21.mono x29
   have f_o12 := x29.2 _ _ f_o12
   have hE := hE.trans x29
   simp only [EVA, reduceIte, reduceCtorEq, Nat.reduceLT, Nat.reduceLeDiff, Int.reduceEq, Int.reduceLT, Int.reduceLE, Nat.reduceMul, eq_true h9, eq_true h10.1, eq_true h10.2, q11, f_o12, (show IntKind.i64.wrap 1 = 1 from rfl)]
   exact ⟨⟨k7, v26, IntKind.i64.wrap (x6 + 1)⟩, (by repeat' first | exact Wk.nil | apply Wk.u | apply Wk.r), ⟨hg, hE⟩, Nat.lt_succ_self _⟩
  ·refine Br.no h9 ?_
   simp only [EVA, reduceIte, reduceCtorEq, Nat.reduceLT, Nat.reduceLeDiff, Int.reduceEq, Int.reduceLT, Int.reduceLE, Nat.reduceMul, rs23, eq_false h9, (show IntKind.i64.wrap 1 = 1 from rfl)]
   obtain rfl := Option.some.inj hg
   exact (hK  _ hE )
/-- skymosaic/withdraw.stated -/
theorem rs32 : Tryz.f32.results.toList = [.tmp 4] := rfl
def g32 (n : Nat) (a0 : Int) (a1 : Int) : Option (Bool) := if 0 ≤ a0 then (if a0 < 4096 then (if 0 ≤ a1 then (some (decide (a1 ≤ 1099511627776))) else (some false)) else (some false)) else (some false)
theorem c32 (B : Nat) (w0 : World) (n : Nat) (a0 : Int) (a1 : Int) (H : AHeap) (K : AV → AHeap → Prop) (r : (Bool)) (hg : g32 n a0 a1 = some r)  (hK : K (.bool r) H) : ACall Tryz.prog B w0 32 [.int .i64 a0, .int .i64 a1] H K := by
 unfold g32 at hg
 refine ACall.enter Tryz.func32 (by kernel_rfl) rfl (eawp_sound noY_sound _ _ _ _ ?_)
 have hE : Ext H H := Ext.refl H
 simp only [EVA, reduceIte, reduceCtorEq, Tryz.ntmps32, rs32]
 rcases ite_some hg with ⟨h1, hg⟩ | ⟨h1, hg⟩
 ·refine Br.yes h1 ?_
  simp only [EVA, reduceIte, reduceCtorEq, eq_true h1]
  rcases ite_some hg with ⟨h2, hg⟩ | ⟨h2, hg⟩
  ·refine Br.yes h2 ?_
   simp only [EVA, reduceIte, reduceCtorEq, eq_true h1, eq_true h2]
   rcases ite_some hg with ⟨h3, hg⟩ | ⟨h3, hg⟩
   ·refine Br.yes h3 ?_
    simp only [EVA, reduceIte, reduceCtorEq, rs32, eq_true h1, eq_true h2, eq_true h3]
    obtain rfl := Option.some.inj hg
    exact hK
   ·refine Br.no h3 ?_
    simp only [EVA, reduceIte, reduceCtorEq, rs32, eq_true h1, eq_true h2, eq_false h3]
    obtain rfl := Option.some.inj hg
    exact hK
  ·refine Br.no h2 ?_
   simp only [EVA, reduceIte, reduceCtorEq, rs32, eq_true h1, eq_false h2]
   obtain rfl := Option.some.inj hg
   exact hK
 ·refine Br.no h1 ?_
  simp only [EVA, reduceIte, reduceCtorEq, rs32, eq_false h1]
  obtain rfl := Option.some.inj hg
  exact hK
/-- cmp.isNaN[uint64] -/
theorem rs119 : Tryz.f119.results.toList = [.tmp 2] := rfl
def g119 (n : Nat) (a0 : Int) : Option (Bool) := some false
theorem c119 (B : Nat) (w0 : World) (n : Nat) (a0 : Int) (H : AHeap) (K : AV → AHeap → Prop) (r : (Bool)) (hg : g119 n a0 = some r)  (hK : K (.bool r) H) : ACall Tryz.prog B w0 119 [.int .u64 a0] H K := by
 unfold g119 at hg
 refine ACall.enter Tryz.func119 (by kernel_rfl) rfl (eawp_sound noY_sound _ _ _ _ ?_)
 have hE : Ext H H := Ext.refl H
 simp only [EVA, reduceIte, reduceCtorEq, Tryz.ntmps119, rs119, rs119]
 obtain rfl := Option.some.inj hg
 exact hK
/-- cmp.Less[uint64] -/
theorem rs107 : Tryz.f107.results.toList = [.tmp 4] := rfl
def g107 (n : Nat) (a0 : Int) (a1 : Int) : Option (Bool) := (g119 n a0).bind fun v1 => if v1 = true then ((g119 n a1).bind fun v4 => if v4 = true then (some (decide (a0 < a1))) else (some true)) else (some (decide (a0 < a1)))
theorem c107 (B : Nat) (w0 : World) (n : Nat) (a0 : Int) (a1 : Int) (H : AHeap) (K : AV → AHeap → Prop) (r : (Bool)) (hg : g107 n a0 a1 = some r)  (hK : K (.bool r) H) : ACall Tryz.prog B w0 107 [.int .u64 a0, .int .u64 a1] H K := by
 unfold g107 at hg
 refine ACall.enter Tryz.func107 (by kernel_rfl) rfl (eawp_sound noY_sound _ _ _ _ ?_)
 have hE : Ext H H := Ext.refl H
 simp only [EVA, reduceIte, reduceCtorEq, Tryz.ntmps107, rs107]
 obtain ⟨v1, ch2, hg⟩ := bind_some hg
 refine ACall.wkA (args := [.int .u64 a0]) (c119 B w0 n a0 _ _ v1 ch2  ?_) (WkA.r WkA.nil)
 rcases ite_some hg with ⟨h3, hg⟩ | ⟨h3, hg⟩
 ·simp only [EVA, reduceIte, reduceCtorEq, h3]
  obtain ⟨v4, ch5, hg⟩ := bind_some hg
  refine ACall.wkA (args := [.int .u64 a1]) (c119 B w0 n a1 _ _ v4 ch5  ?_) (WkA.r WkA.nil)
  rcases ite_some hg with ⟨h6, hg⟩ | ⟨h6, hg⟩
  ·simp only [EVA, reduceIte, reduceCtorEq, rs107, h3, h6]
   obtain rfl := Option.some.inj hg
   exact hK
  ·have h6 := Bool.eq_false_iff.2 h6
   simp only [EVA, reduceIte, reduceCtorEq, rs107, h3, h6]
   obtain rfl := Option.some.inj hg
   exact hK
 ·have h3 := Bool.eq_false_iff.2 h3
  simp only [EVA, reduceIte, reduceCtorEq, rs107, h3]
  obtain rfl := Option.some.inj hg
  exact hK
/-- slices.insertionSortOrdered[uint64] -/
def l101_1 (n : Nat) (l101_0_REC : Int → List Int → Option (List Int)) (za0 : Nat) (a1 : Int) (x1 : Int) : Nat → Int → List Int → Option (List Int)
 | 0, _, _ => none
 | k8 + 1, x6, x7 => if a1 < x6 then (if (0 : Int) ≤ x6 ∧ x6 < ((za0 : Nat) : Int) then (if (Int.toNat x6) < x7.length then (if (0 : Int) ≤ (IntKind.i64.wrap (x6 - 1)) ∧ (IntKind.i64.wrap (x6 - 1)) < ((za0 : Nat) : Int) then (if (Int.toNat (IntKind.i64.wrap (x6 - 1))) < x7.length then ((g107 n (rdn x7 (Int.toNat x6)) (rdn x7 (Int.toNat (IntKind.i64.wrap (x6 - 1))))).bind fun v17 => if v17 = true then (if (0 : Int) ≤ (IntKind.i64.wrap (x6 - 1)) ∧ (IntKind.i64.wrap (x6 - 1)) < ((za0 : Nat) : Int) then (if (Int.toNat (IntKind.i64.wrap (x6 - 1))) < x7.length then (if (0 : Int) ≤ x6 ∧ x6 < ((za0 : Nat) : Int) then (if (Int.toNat x6) < x7.length then (if (0 : Int) ≤ x6 ∧ x6 < ((za0 : Nat) : Int) then (if (Int.toNat x6) < x7.length then (if (0 : Int) ≤ (IntKind.i64.wrap (x6 - 1)) ∧ (IntKind.i64.wrap (x6 - 1)) < ((za0 : Nat) : Int) then (if (Int.toNat (IntKind.i64.wrap (x6 - 1))) < (List.set x7 (Int.toNat x6) (rdn x7 (Int.toNat (IntKind.i64.wrap (x6 - 1))))).length then ((l101_1 n l101_0_REC za0 a1 x1 k8) (IntKind.i64.wrap (x6 - 1)) (List.set (List.set x7 (Int.toNat x6) (rdn x7 (Int.toNat (IntKind.i64.wrap (x6 - 1))))) (Int.toNat (IntKind.i64.wrap (x6 - 1))) (rdn x7 (Int.toNat x6)))) else none) else none) else none) else none) else none) else none) else none) else none) else (l101_0_REC (IntKind.i64.wrap (x1 + 1)) x7)) else none) else none) else none) else none) else (l101_0_REC (IntKind.i64.wrap (x1 + 1)) x7)
def l101_0 (n : Nat) (za0 : Nat) (a1 : Int) (a2 : Int) : Nat → Int → List Int → Option (List Int)
 | 0, _, _ => none
 | k3 + 1, x1, x2 => if x1 < a2 then (l101_1 n (l101_0 n za0 a1 a2 k3) za0 a1 x1 n x1 x2) else (some x2)
theorem rs101 : Tryz.f101.results.toList = [] := rfl
def g101 (n : Nat) (a0 : List Int) (za0 : Nat) (a1 : Int) (a2 : Int) : Option (List Int) := l101_0 n za0 a1 a2 n (IntKind.i64.wrap (a1 + 1)) a0
theorem c101 (B : Nat) (w0 : World) (n : Nat) (a0 : List Int) (za0 : Nat) (a1 : Int) (a2 : Int) (pa0 : Nat) (fs : List (Nat × AObj)) (ts : List Tail) (H0 H : AHeap) (K : AV → AHeap → Prop) (r : (List Int)) (hg : g101 n a0 za0 a1 a2 = some r) (hE : Ext H0 H) (g_pa0 : H0.length ≤ pa0) (f_pa0 : H[pa0]? = some (.cells (List.map (AV.int .u64) a0))) (nf_pa0 : Nf fs pa0) (hfo : FrObj H fs) (hft : FrTl H0 H ts) (hK : ∀ (H' : AHeap), Ext H0 H' → H'[pa0]? = some (.cells (List.map (AV.int .u64) r)) → FrObj H' fs → FrTl H0 H' ts → K (.tup []) H') : ACall Tryz.prog B w0 101 [.sl 1 pa0 0 za0, .int .i64 a1, .int .i64 a2] H K := by
 unfold g101 at hg
 refine ACall.enter Tryz.func101 (by kernel_rfl) rfl (eawp_sound noY_sound _ _ _ _ ?_)
 simp only [EVA, reduceIte, reduceCtorEq, Tryz.ntmps101, rs101, f_pa0]
 refine AWP.loop (σ := Nat × Int × List Int) (fun s => [.sl 1 pa0 0 za0, .int .i64 a1, .int .i64 a2, .undef, .undef, .undef, .int .i64 s.2.1, .undef, .undef, .undef, .undef, .undef, .undef, .undef, .undef, .undef, .undef, .undef, .undef, .undef, .undef, .undef, .undef, .undef, .undef, .undef, .undef, .undef, .undef, .undef, .undef, .undef, .undef, .undef, .undef, .undef, .undef, .undef, .undef, .undef, .undef, .undef, .undef, .undef, .undef, .undef, .undef, .undef, .undef]) (fun s H' => l101_0 n za0 a1 a2 s.1 s.2.1 s.2.2 = some r ∧ Ext H0 H' ∧ ObjAt H' pa0 (List.map (AV.int .u64) s.2.2) ∧ FrObj H' fs ∧ FrTl H0 H' ts) (fun s => s.1) ⟨⟨n, IntKind.i64.wrap (a1 + 1), a0⟩, (by repeat' first | exact Wk.nil | apply Wk.u | apply Wk.r), ⟨hg, hE, f_pa0, hfo, hft⟩⟩ ?_
 rintro ⟨k3, x1, x2⟩ H4 ⟨hg, hE, f9_pa0, hfo, hft⟩ _
 have f_pa0 : H4[pa0]? = some (.cells (List.map (AV.int .u64) x2)) := f9_pa0
 clear f9_pa0
 try dsimp only at hg
 cases k3 with
 | zero => simp only [l101_0, reduceCtorEq] at hg
 | succ k3 =>
  rw [l101_0] at hg
  refine eawp_sound noY_sound _ _ _ _ ?_
  simp only [EVA, reduceIte, reduceCtorEq, f_pa0]
  rcases ite_some hg with ⟨h5, hg⟩ | ⟨h5, hg⟩
  ·refine Br.yes h5 ?_
   simp only [EVA, reduceIte, reduceCtorEq, eq_true h5, f_pa0]
   refine AWP.loop (σ := Nat × Int × List Int) (fun s => [.sl 1 pa0 0 za0, .int .i64 a1, .int .i64 a2, .undef, .undef, .undef, .int .i64 x1, .int .i64 s.2.1, .undef, .undef, .undef, .undef, .undef, .undef, .undef, .undef, .undef, .undef, .undef, .undef, .undef, .undef, .undef, .undef, .undef, .undef, .undef, .undef, .undef, .undef, .undef, .undef, .undef, .undef, .undef, .undef, .undef, .undef, .undef, .undef, .undef, .undef, .undef, .undef, .undef, .undef, .undef, .undef, .undef]) (fun s H' => l101_1 n (l101_0 n za0 a1 a2 k3) za0 a1 x1 s.1 s.2.1 s.2.2 = some r ∧ Ext H0 H' ∧ ObjAt H' pa0 (List.map (AV.int .u64) s.2.2) ∧ FrObj H' fs ∧ FrTl H0 H' ts) (fun s => s.1) ⟨⟨n, x1, x2⟩, (by repeat' first | exact Wk.nil | apply Wk.u | apply Wk.r), ⟨hg, hE, f_pa0, hfo, hft⟩⟩ ?_
   rintro ⟨k8, x6, x7⟩ H9 ⟨hg, hE, f9_pa0, hfo, hft⟩ _
   have f_pa0 : H9[pa0]? = some (.cells (List.map (AV.int .u64) x7)) := f9_pa0
   clear f9_pa0
   try dsimp only at hg
   cases k8 with
   | zero => simp only [l101_1, reduceCtorEq] at hg
   | succ k8 =>
    rw [l101_1] at hg
    refine eawp_sound noY_sound _ _ _ _ ?_
    simp only [EVA, reduceIte, reduceCtorEq, eq_true h5, f_pa0]
    refine AWP.draw noY_sound [[], [], [0, 1], [0, 1, 2], [0, 1, 2, 3], [0, 1, 2, 3], [0, 1, 2, 3, 4, 5], [0, 1, 2, 3, 4, 5, 6], [0, 1, 2, 3], [0, 1, 2, 3], [0, 1, 2, 3, 9], [0, 1, 2, 3, 8, 9, 10], [0, 1, 2, 3, 8, 9, 10, 11], [0, 1, 2, 3, 4, 5, 6, 7, 8, 9, 10, 11, 12], [0, 1, 2, 3, 4, 5, 6, 7, 8, 9, 10, 11, 12, 13]] [⟨0, false, []⟩, ⟨1, false, []⟩, ⟨2, false, []⟩, ⟨3, false, []⟩, ⟨4, false, []⟩, ⟨5, false, []⟩, ⟨6, false, []⟩, ⟨7, false, []⟩, ⟨8, false, []⟩, ⟨9, false, []⟩, ⟨10, false, []⟩, ⟨11, false, []⟩, ⟨12, false, []⟩, ⟨13, true, []⟩, ⟨14, false, []⟩] [0, 1, 2, 3, 4, 5, 6, 7, 8, 9, 10, 11, 12, 13, 14] [0, 1, 2, 3, 4, 5, 6, 7, 8, 9, 10, 11, 12, 13, 14] (by kernel_rfl) ?_
    simp only [EVA, reduceIte, reduceCtorEq, eq_true h5, f_pa0]
    rcases ite_some hg with ⟨h10, hg⟩ | ⟨h10, hg⟩
    ·refine Br.yes h10 ?_
     obtain ⟨h11, hg⟩ := guard_some hg
     obtain ⟨h12, hg⟩ := guard_some hg
     have q13 := rdn_map (AV.int .u64) h12
     obtain ⟨h14, hg⟩ := guard_some hg
     obtain ⟨h15, hg⟩ := guard_some hg
     have q16 := rdn_map (AV.int .u64) h15
     simp only [EVA, reduceIte, reduceCtorEq, eq_true h5, eq_true h10, eq_true h11.1, eq_true h11.2, q13, eq_true h14.1, eq_true h14.2, q16, f_pa0]
     obtain ⟨v17, ch18, hg⟩ := bind_some hg
     refine ACall.wkA (args := [.int .u64 (rdn x7 (Int.toNat x6)), .int .u64 (rdn x7 (Int.toNat (IntKind.i64.wrap (x6 - 1))))]) (c107 B w0 n (rdn x7 (Int.toNat x6)) (rdn x7 (Int.toNat (IntKind.i64.wrap (x6 - 1)))) _ _ v17 ch18  ?_) (WkA.r (WkA.r WkA.nil))
     rcases ite_some hg with ⟨h19, hg⟩ | ⟨h19, hg⟩
     ·simp only [EVA, reduceIte, reduceCtorEq, eq_true h5, eq_true h10, eq_true h11.1, eq_true h11.2, q13, eq_true h14.1, eq_true h14.2, q16, h19, f_pa0]
      refine AWP.draw noY_sound [[], [], [], [], [3], [], [], [6], [5, 6, 7], [5, 6, 7, 8], [], [], [10, 11], [10, 11, 12], [0, 1, 5, 6, 7, 8, 9, 10, 11, 12, 13], [0, 1, 5, 6, 7, 8, 9, 10, 11, 12, 13, 14], [0, 1, 2, 3, 4, 5, 6, 7, 8, 9, 10, 11, 12, 13, 14, 15], [0, 1, 2, 3, 4, 5, 6, 7, 8, 9, 10, 11, 12, 13, 14, 15, 16]] [⟨0, false, []⟩, ⟨1, false, []⟩, ⟨2, false, []⟩, ⟨3, false, []⟩, ⟨4, false, []⟩, ⟨5, false, []⟩, ⟨6, false, []⟩, ⟨7, false, []⟩, ⟨8, false, []⟩, ⟨9, false, []⟩, ⟨10, false, []⟩, ⟨11, false, []⟩, ⟨12, false, []⟩, ⟨13, false, []⟩, ⟨14, false, []⟩, ⟨15, true, []⟩, ⟨16, false, []⟩, ⟨17, true, []⟩] [0, 1, 2, 3, 4, 5, 6, 7, 8, 9, 10, 11, 12, 13, 14, 15, 16, 17] [0, 1, 5, 6, 7, 8, 9, 10, 11, 12, 13, 14, 15, 2, 3, 4, 16, 17] (by kernel_rfl) ?_
      obtain ⟨h20, hg⟩ := guard_some hg
      obtain ⟨h21, hg⟩ := guard_some hg
      have q22 := rdn_map (AV.int .u64) h21
      obtain ⟨h23, hg⟩ := guard_some hg
      obtain ⟨h24, hg⟩ := guard_some hg
      have q25 := rdn_map (AV.int .u64) h24
      obtain ⟨h26, hg⟩ := guard_some hg
      simp only [EVA, reduceIte, reduceCtorEq, eq_true h5, eq_true h10, eq_true h11.1, eq_true h11.2, q13, eq_true h14.1, eq_true h14.2, q16, h19, eq_true h20.1, eq_true h20.2, q22, eq_true h23.1, eq_true h23.2, q25, eq_true h26.1, eq_true h26.2, f_pa0]
      obtain ⟨h29, hg⟩ := guard_some hg
      refine eop_storeL_go (H0 := H0) (id := pa0) (off := (Int.toNat x6)) (AV.int .u64) (l := x7) (v := rdn x7 (Int.toNat (IntKind.i64.wrap (x6 - 1)))) rfl rfl f_pa0 ty53 rfl rfl rfl h29 hE g_pa0 ?_
      intro H27 hE f9_pa0 p28 l9
      have hft := hft.keep f_pa0 p28
      have hfo := hfo.keep nf_pa0 p28
      have f_pa0 : H27[pa0]? = some (.cells (List.map (AV.int .u64) (List.set x7 (Int.toNat x6) (rdn x7 (Int.toNat (IntKind.i64.wrap (x6 - 1))))))) := f9_pa0
      obtain ⟨h30, hg⟩ := guard_some hg
      simp only [EVA, reduceIte, reduceCtorEq, eq_true h5, eq_true h10, eq_true h11.1, eq_true h11.2, q13, eq_true h14.1, eq_true h14.2, q16, h19, eq_true h20.1, eq_true h20.2, q22, eq_true h23.1, eq_true h23.2, q25, eq_true h26.1, eq_true h26.2, eq_true h30.1, eq_true h30.2, f_pa0]
      obtain ⟨h33, hg⟩ := guard_some hg
      refine eop_storeL_go (H0 := H0) (id := pa0) (off := (Int.toNat (IntKind.i64.wrap (x6 - 1)))) (AV.int .u64) (l := List.set x7 (Int.toNat x6) (rdn x7 (Int.toNat (IntKind.i64.wrap (x6 - 1))))) (v := rdn x7 (Int.toNat x6)) rfl rfl f_pa0 ty53 rfl rfl rfl h33 hE g_pa0 ?_
      intro H31 hE f9_pa0 p32 l9
      have hft := hft.keep f_pa0 p32
      have hfo := hfo.keep nf_pa0 p32
      have f_pa0 : H31[pa0]? = some (.cells (List.map (AV.int .u64) (List.set (List.set x7 (Int.toNat x6) (rdn x7 (Int.toNat (IntKind.i64.wrap (x6 - 1))))) (Int.toNat (IntKind.i64.wrap (x6 - 1))) (rdn x7 (Int.toNat x6))))) := f9_pa0
      simp only [EVA, reduceIte, reduceCtorEq, eq_true h5, eq_true h10, eq_true h11.1, eq_true h11.2, q13, eq_true h14.1, eq_true h14.2, q16, h19, eq_true h20.1, eq_true h20.2, q22, eq_true h23.1, eq_true h23.2, q25, eq_true h26.1, eq_true h26.2, eq_true h30.1, eq_true h30.2, f_pa0]
      exact ⟨⟨k8, IntKind.i64.wrap (x6 - 1), List.set (List.set x7 (Int.toNat x6) (rdn x7 (Int.toNat (IntKind.i64.wrap (x6 - 1))))) (Int.toNat (IntKind.i64.wrap (x6 - 1))) (rdn x7 (Int.toNat x6))⟩, (by repeat' first | exact Wk.nil | apply Wk.u | apply Wk.r), ⟨hg, hE, f_pa0, hfo, hft⟩, Nat.lt_succ_self _⟩
     ·have h19 := Bool.eq_false_iff.2 h19
      simp only [EVA, reduceIte, reduceCtorEq, eq_true h5, eq_true h10, eq_true h11.1, eq_true h11.2, q13, eq_true h14.1, eq_true h14.2, q16, h19, f_pa0]
      exact ⟨⟨k3, IntKind.i64.wrap (x1 + 1), x7⟩, (by repeat' first | exact Wk.nil | apply Wk.u | apply Wk.r), ⟨hg, hE, f_pa0, hfo, hft⟩, Nat.lt_succ_self _⟩
    ·refine Br.no h10 ?_
     simp only [EVA, reduceIte, reduceCtorEq, eq_true h5, eq_false h10, f_pa0]
     exact ⟨⟨k3, IntKind.i64.wrap (x1 + 1), x7⟩, (by repeat' first | exact Wk.nil | apply Wk.u | apply Wk.r), ⟨hg, hE, f_pa0, hfo, hft⟩, Nat.lt_succ_self _⟩
  ·refine Br.no h5 ?_
   simp only [EVA, reduceIte, reduceCtorEq, rs101, eq_false h5, f_pa0]
   obtain rfl := Option.some.inj hg
   exact (hK  _ hE f_pa0 hfo hft)
/-- math/bits.Len64 -/
theorem rs111 : Tryz.f111.results.toList = [.tmp 2] := rfl
def g111 (n : Nat) (a0 : Int) : Option (Int) := if 4294967296 ≤ a0 then (if 65536 ≤ (Int.fdiv a0 4294967296) then (if 256 ≤ (Int.fdiv (Int.fdiv a0 4294967296) 65536) then (if (0 : Int) ≤ (IntKind.u8.wrap (Int.fdiv (Int.fdiv (Int.fdiv a0 4294967296) 65536) 256)) ∧ (IntKind.u8.wrap (Int.fdiv (Int.fdiv (Int.fdiv a0 4294967296) 65536) 256)) < (((List.append (List.append [0, 1, 2, 2, 3, 3, 3, 3, 4, 4, 4, 4, 4, 4, 4, 4, 5, 5, 5, 5, 5, 5, 5, 5, 5, 5, 5, 5, 5, 5, 5, 5, 6, 6, 6, 6, 6, 6, 6, 6, 6, 6, 6, 6, 6, 6, 6, 6, 6, 6, 6, 6, 6, 6, 6, 6, 6, 6, 6, 6, 6, 6, 6, 6] [7, 7, 7, 7, 7, 7, 7, 7, 7, 7, 7, 7, 7, 7, 7, 7, 7, 7, 7, 7, 7, 7, 7, 7, 7, 7, 7, 7, 7, 7, 7, 7, 7, 7, 7, 7, 7, 7, 7, 7, 7, 7, 7, 7, 7, 7, 7, 7, 7, 7, 7, 7, 7, 7, 7, 7, 7, 7, 7, 7, 7, 7, 7, 7]) (List.append [8, 8, 8, 8, 8, 8, 8, 8, 8, 8, 8, 8, 8, 8, 8, 8, 8, 8, 8, 8, 8, 8, 8, 8, 8, 8, 8, 8, 8, 8, 8, 8, 8, 8, 8, 8, 8, 8, 8, 8, 8, 8, 8, 8, 8, 8, 8, 8, 8, 8, 8, 8, 8, 8, 8, 8, 8, 8, 8, 8, 8, 8, 8, 8] [8, 8, 8, 8, 8, 8, 8, 8, 8, 8, 8, 8, 8, 8, 8, 8, 8, 8, 8, 8, 8, 8, 8, 8, 8, 8, 8, 8, 8, 8, 8, 8, 8, 8, 8, 8, 8, 8, 8, 8, 8, 8, 8, 8, 8, 8, 8, 8, 8, 8, 8, 8, 8, 8, 8, 8, 8, 8, 8, 8, 8, 8, 8, 8])) : List UInt8).length : Int) then (some (IntKind.i64.wrap (56 + (IntKind.i64.wrap ((((List.append (List.append [0, 1, 2, 2, 3, 3, 3, 3, 4, 4, 4, 4, 4, 4, 4, 4, 5, 5, 5, 5, 5, 5, 5, 5, 5, 5, 5, 5, 5, 5, 5, 5, 6, 6, 6, 6, 6, 6, 6, 6, 6, 6, 6, 6, 6, 6, 6, 6, 6, 6, 6, 6, 6, 6, 6, 6, 6, 6, 6, 6, 6, 6, 6, 6] [7, 7, 7, 7, 7, 7, 7, 7, 7, 7, 7, 7, 7, 7, 7, 7, 7, 7, 7, 7, 7, 7, 7, 7, 7, 7, 7, 7, 7, 7, 7, 7, 7, 7, 7, 7, 7, 7, 7, 7, 7, 7, 7, 7, 7, 7, 7, 7, 7, 7, 7, 7, 7, 7, 7, 7, 7, 7, 7, 7, 7, 7, 7, 7]) (List.append [8, 8, 8, 8, 8, 8, 8, 8, 8, 8, 8, 8, 8, 8, 8, 8, 8, 8, 8, 8, 8, 8, 8, 8, 8, 8, 8, 8, 8, 8, 8, 8, 8, 8, 8, 8, 8, 8, 8, 8, 8, 8, 8, 8, 8, 8, 8, 8, 8, 8, 8, 8, 8, 8, 8, 8, 8, 8, 8, 8, 8, 8, 8, 8] [8, 8, 8, 8, 8, 8, 8, 8, 8, 8, 8, 8, 8, 8, 8, 8, 8, 8, 8, 8, 8, 8, 8, 8, 8, 8, 8, 8, 8, 8, 8, 8, 8, 8, 8, 8, 8, 8, 8, 8, 8, 8, 8, 8, 8, 8, 8, 8, 8, 8, 8, 8, 8, 8, 8, 8, 8, 8, 8, 8, 8, 8, 8, 8])) : List UInt8).getD (Int.toNat (IntKind.u8.wrap (Int.fdiv (Int.fdiv (Int.fdiv a0 4294967296) 65536) 256))) 0).toNat : Int))))) else none) else (if (0 : Int) ≤ (IntKind.u8.wrap (Int.fdiv (Int.fdiv a0 4294967296) 65536)) ∧ (IntKind.u8.wrap (Int.fdiv (Int.fdiv a0 4294967296) 65536)) < (((List.append (List.append [0, 1, 2, 2, 3, 3, 3, 3, 4, 4, 4, 4, 4, 4, 4, 4, 5, 5, 5, 5, 5, 5, 5, 5, 5, 5, 5, 5, 5, 5, 5, 5, 6, 6, 6, 6, 6, 6, 6, 6, 6, 6, 6, 6, 6, 6, 6, 6, 6, 6, 6, 6, 6, 6, 6, 6, 6, 6, 6, 6, 6, 6, 6, 6] [7, 7, 7, 7, 7, 7, 7, 7, 7, 7, 7, 7, 7, 7, 7, 7, 7, 7, 7, 7, 7, 7, 7, 7, 7, 7, 7, 7, 7, 7, 7, 7, 7, 7, 7, 7, 7, 7, 7, 7, 7, 7, 7, 7, 7, 7, 7, 7, 7, 7, 7, 7, 7, 7, 7, 7, 7, 7, 7, 7, 7, 7, 7, 7]) (List.append [8, 8, 8, 8, 8, 8, 8, 8, 8, 8, 8, 8, 8, 8, 8, 8, 8, 8, 8, 8, 8, 8, 8, 8, 8, 8, 8, 8, 8, 8, 8, 8, 8, 8, 8, 8, 8, 8, 8, 8, 8, 8, 8, 8, 8, 8, 8, 8, 8, 8, 8, 8, 8, 8, 8, 8, 8, 8, 8, 8, 8, 8, 8, 8] [8, 8, 8, 8, 8, 8, 8, 8, 8, 8, 8, 8, 8, 8, 8, 8, 8, 8, 8, 8, 8, 8, 8, 8, 8, 8, 8, 8, 8, 8, 8, 8, 8, 8, 8, 8, 8, 8, 8, 8, 8, 8, 8, 8, 8, 8, 8, 8, 8, 8, 8, 8, 8, 8, 8, 8, 8, 8, 8, 8, 8, 8, 8, 8])) : List UInt8).length : Int) then (some (IntKind.i64.wrap (48 + (IntKind.i64.wrap ((((List.append (List.append [0, 1, 2, 2, 3, 3, 3, 3, 4, 4, 4, 4, 4, 4, 4, 4, 5, 5, 5, 5, 5, 5, 5, 5, 5, 5, 5, 5, 5, 5, 5, 5, 6, 6, 6, 6, 6, 6, 6, 6, 6, 6, 6, 6, 6, 6, 6, 6, 6, 6, 6, 6, 6, 6, 6, 6, 6, 6, 6, 6, 6, 6, 6, 6] [7, 7, 7, 7, 7, 7, 7, 7, 7, 7, 7, 7, 7, 7, 7, 7, 7, 7, 7, 7, 7, 7, 7, 7, 7, 7, 7, 7, 7, 7, 7, 7, 7, 7, 7, 7, 7, 7, 7, 7, 7, 7, 7, 7, 7, 7, 7, 7, 7, 7, 7, 7, 7, 7, 7, 7, 7, 7, 7, 7, 7, 7, 7, 7]) (List.append [8, 8, 8, 8, 8, 8, 8, 8, 8, 8, 8, 8, 8, 8, 8, 8, 8, 8, 8, 8, 8, 8, 8, 8, 8, 8, 8, 8, 8, 8, 8, 8, 8, 8, 8, 8, 8, 8, 8, 8, 8, 8, 8, 8, 8, 8, 8, 8, 8, 8, 8, 8, 8, 8, 8, 8, 8, 8, 8, 8, 8, 8, 8, 8] [8, 8, 8, 8, 8, 8, 8, 8, 8, 8, 8, 8, 8, 8, 8, 8, 8, 8, 8, 8, 8, 8, 8, 8, 8, 8, 8, 8, 8, 8, 8, 8, 8, 8, 8, 8, 8, 8, 8, 8, 8, 8, 8, 8, 8, 8, 8, 8, 8, 8, 8, 8, 8, 8, 8, 8, 8, 8, 8, 8, 8, 8, 8, 8])) : List UInt8).getD (Int.toNat (IntKind.u8.wrap (Int.fdiv (Int.fdiv a0 4294967296) 65536))) 0).toNat : Int))))) else none)) else (if 256 ≤ (Int.fdiv a0 4294967296) then (if (0 : Int) ≤ (IntKind.u8.wrap (Int.fdiv (Int.fdiv a0 4294967296) 256)) ∧ (IntKind.u8.wrap (Int.fdiv (Int.fdiv a0 4294967296) 256)) < (((List.append (List.append [0, 1, 2, 2, 3, 3, 3, 3, 4, 4, 4, 4, 4, 4, 4, 4, 5, 5, 5, 5, 5, 5, 5, 5, 5, 5, 5, 5, 5, 5, 5, 5, 6, 6, 6, 6, 6, 6, 6, 6, 6, 6, 6, 6, 6, 6, 6, 6, 6, 6, 6, 6, 6, 6, 6, 6, 6, 6, 6, 6, 6, 6, 6, 6] [7, 7, 7, 7, 7, 7, 7, 7, 7, 7, 7, 7, 7, 7, 7, 7, 7, 7, 7, 7, 7, 7, 7, 7, 7, 7, 7, 7, 7, 7, 7, 7, 7, 7, 7, 7, 7, 7, 7, 7, 7, 7, 7, 7, 7, 7, 7, 7, 7, 7, 7, 7, 7, 7, 7, 7, 7, 7, 7, 7, 7, 7, 7, 7]) (List.append [8, 8, 8, 8, 8, 8, 8, 8, 8, 8, 8, 8, 8, 8, 8, 8, 8, 8, 8, 8, 8, 8, 8, 8, 8, 8, 8, 8, 8, 8, 8, 8, 8, 8, 8, 8, 8, 8, 8, 8, 8, 8, 8, 8, 8, 8, 8, 8, 8, 8, 8, 8, 8, 8, 8, 8, 8, 8, 8, 8, 8, 8, 8, 8] [8, 8, 8, 8, 8, 8, 8, 8, 8, 8, 8, 8, 8, 8, 8, 8, 8, 8, 8, 8, 8, 8, 8, 8, 8, 8, 8, 8, 8, 8, 8, 8, 8, 8, 8, 8, 8, 8, 8, 8, 8, 8, 8, 8, 8, 8, 8, 8, 8, 8, 8, 8, 8, 8, 8, 8, 8, 8, 8, 8, 8, 8, 8, 8])) : List UInt8).length : Int) then (some (IntKind.i64.wrap (40 + (IntKind.i64.wrap ((((List.append (List.append [0, 1, 2, 2, 3, 3, 3, 3, 4, 4, 4, 4, 4, 4, 4, 4, 5, 5, 5, 5, 5, 5, 5, 5, 5, 5, 5, 5, 5, 5, 5, 5, 6, 6, 6, 6, 6, 6, 6, 6, 6, 6, 6, 6, 6, 6, 6, 6, 6, 6, 6, 6, 6, 6, 6, 6, 6, 6, 6, 6, 6, 6, 6, 6] [7, 7, 7, 7, 7, 7, 7, 7, 7, 7, 7, 7, 7, 7, 7, 7, 7, 7, 7, 7, 7, 7, 7, 7, 7, 7, 7, 7, 7, 7, 7, 7, 7, 7, 7, 7, 7, 7, 7, 7, 7, 7, 7, 7, 7, 7, 7, 7, 7, 7, 7, 7, 7, 7, 7, 7, 7, 7, 7, 7, 7, 7, 7, 7]) (List.append [8, 8, 8, 8, 8, 8, 8, 8, 8, 8, 8, 8, 8, 8, 8, 8, 8, 8, 8, 8, 8, 8, 8, 8, 8, 8, 8, 8, 8, 8, 8, 8, 8, 8, 8, 8, 8, 8, 8, 8, 8, 8, 8, 8, 8, 8, 8, 8, 8, 8, 8, 8, 8, 8, 8, 8, 8, 8, 8, 8, 8, 8, 8, 8] [8, 8, 8, 8, 8, 8, 8, 8, 8, 8, 8, 8, 8, 8, 8, 8, 8, 8, 8, 8, 8, 8, 8, 8, 8, 8, 8, 8, 8, 8, 8, 8, 8, 8, 8, 8, 8, 8, 8, 8, 8, 8, 8, 8, 8, 8, 8, 8, 8, 8, 8, 8, 8, 8, 8, 8, 8, 8, 8, 8, 8, 8, 8, 8])) : List UInt8).getD (Int.toNat (IntKind.u8.wrap (Int.fdiv (Int.fdiv a0 4294967296) 256))) 0).toNat : Int))))) else none) else (if (0 : Int) ≤ (IntKind.u8.wrap (Int.fdiv a0 4294967296)) ∧ (IntKind.u8.wrap (Int.fdiv a0 4294967296)) < (((List.append (List.append [0, 1, 2, 2, 3, 3, 3, 3, 4, 4, 4, 4, 4, 4, 4, 4, 5, 5, 5, 5, 5, 5, 5, 5, 5, 5, 5, 5, 5, 5, 5, 5, 6, 6, 6, 6, 6, 6, 6, 6, 6, 6, 6, 6, 6, 6, 6, 6, 6, 6, 6, 6, 6, 6, 6, 6, 6, 6, 6, 6, 6, 6, 6, 6] [7, 7, 7, 7, 7, 7, 7, 7, 7, 7, 7, 7, 7, 7, 7, 7, 7, 7, 7, 7, 7, 7, 7, 7, 7, 7, 7, 7, 7, 7, 7, 7, 7, 7, 7, 7, 7, 7, 7, 7, 7, 7, 7, 7, 7, 7, 7, 7, 7, 7, 7, 7, 7, 7, 7, 7, 7, 7, 7, 7, 7, 7, 7, 7]) (List.append [8, 8, 8, 8, 8, 8, 8, 8, 8, 8, 8, 8, 8, 8, 8, 8, 8, 8, 8, 8, 8, 8, 8, 8, 8, 8, 8, 8, 8, 8, 8, 8, 8, 8, 8, 8, 8, 8, 8, 8, 8, 8, 8, 8, 8, 8, 8, 8, 8, 8, 8, 8, 8, 8, 8, 8, 8, 8, 8, 8, 8, 8, 8, 8] [8, 8, 8, 8, 8, 8, 8, 8, 8, 8, 8, 8, 8, 8, 8, 8, 8, 8, 8, 8, 8, 8, 8, 8, 8, 8, 8, 8, 8, 8, 8, 8, 8, 8, 8, 8, 8, 8, 8, 8, 8, 8, 8, 8, 8, 8, 8, 8, 8, 8, 8, 8, 8, 8, 8, 8, 8, 8, 8, 8, 8, 8, 8, 8])) : List UInt8).length : Int) then (some (IntKind.i64.wrap (32 + (IntKind.i64.wrap ((((List.append (List.append [0, 1, 2, 2, 3, 3, 3, 3, 4, 4, 4, 4, 4, 4, 4, 4, 5, 5, 5, 5, 5, 5, 5, 5, 5, 5, 5, 5, 5, 5, 5, 5, 6, 6, 6, 6, 6, 6, 6, 6, 6, 6, 6, 6, 6, 6, 6, 6, 6, 6, 6, 6, 6, 6, 6, 6, 6, 6, 6, 6, 6, 6, 6, 6] [7, 7, 7, 7, 7, 7, 7, 7, 7, 7, 7, 7, 7, 7, 7, 7, 7, 7, 7, 7, 7, 7, 7, 7, 7, 7, 7, 7, 7, 7, 7, 7, 7, 7, 7, 7, 7, 7, 7, 7, 7, 7, 7, 7, 7, 7, 7, 7, 7, 7, 7, 7, 7, 7, 7, 7, 7, 7, 7, 7, 7, 7, 7, 7]) (List.append [8, 8, 8, 8, 8, 8, 8, 8, 8, 8, 8, 8, 8, 8, 8, 8, 8, 8, 8, 8, 8, 8, 8, 8, 8, 8, 8, 8, 8, 8, 8, 8, 8, 8, 8, 8, 8, 8, 8, 8, 8, 8, 8, 8, 8, 8, 8, 8, 8, 8, 8, 8, 8, 8, 8, 8, 8, 8, 8, 8, 8, 8, 8, 8] [8, 8, 8, 8, 8, 8, 8, 8, 8, 8, 8, 8, 8, 8, 8, 8, 8, 8, 8, 8, 8, 8, 8, 8, 8, 8, 8, 8, 8, 8, 8, 8, 8, 8, 8, 8, 8, 8, 8, 8, 8, 8, 8, 8, 8, 8, 8, 8, 8, 8, 8, 8, 8, 8, 8, 8, 8, 8, 8, 8, 8, 8, 8, 8])) : List UInt8).getD (Int.toNat (IntKind.u8.wrap (Int.fdiv a0 4294967296))) 0).toNat : Int))))) else none))) else (if 65536 ≤ a0 then (if 256 ≤ (Int.fdiv a0 65536) then (if (0 : Int) ≤ (IntKind.u8.wrap (Int.fdiv (Int.fdiv a0 65536) 256)) ∧ (IntKind.u8.wrap (Int.fdiv (Int.fdiv a0 65536) 256)) < (((List.append (List.append [0, 1, 2, 2, 3, 3, 3, 3, 4, 4, 4, 4, 4, 4, 4, 4, 5, 5, 5, 5, 5, 5, 5, 5, 5, 5, 5, 5, 5, 5, 5, 5, 6, 6, 6, 6, 6, 6, 6, 6, 6, 6, 6, 6, 6, 6, 6, 6, 6, 6, 6, 6, 6, 6, 6, 6, 6, 6, 6, 6, 6, 6, 6, 6] [7, 7, 7, 7, 7, 7, 7, 7, 7, 7, 7, 7, 7, 7, 7, 7, 7, 7, 7, 7, 7, 7, 7, 7, 7, 7, 7, 7, 7, 7, 7, 7, 7, 7, 7, 7, 7, 7, 7, 7, 7, 7, 7, 7, 7, 7, 7, 7, 7, 7, 7, 7, 7, 7, 7, 7, 7, 7, 7, 7, 7, 7, 7, 7]) (List.append [8, 8, 8, 8, 8, 8, 8, 8, 8, 8, 8, 8, 8, 8, 8, 8, 8, 8, 8, 8, 8, 8, 8, 8, 8, 8, 8, 8, 8, 8, 8, 8, 8, 8, 8, 8, 8, 8, 8, 8, 8, 8, 8, 8, 8, 8, 8, 8, 8, 8, 8, 8, 8, 8, 8, 8, 8, 8, 8, 8, 8, 8, 8, 8] [8, 8, 8, 8, 8, 8, 8, 8, 8, 8, 8, 8, 8, 8, 8, 8, 8, 8, 8, 8, 8, 8, 8, 8, 8, 8, 8, 8, 8, 8, 8, 8, 8, 8, 8, 8, 8, 8, 8, 8, 8, 8, 8, 8, 8, 8, 8, 8, 8, 8, 8, 8, 8, 8, 8, 8, 8, 8, 8, 8, 8, 8, 8, 8])) : List UInt8).length : Int) then (some (IntKind.i64.wrap (24 + (IntKind.i64.wrap ((((List.append (List.append [0, 1, 2, 2, 3, 3, 3, 3, 4, 4, 4, 4, 4, 4, 4, 4, 5, 5, 5, 5, 5, 5, 5, 5, 5, 5, 5, 5, 5, 5, 5, 5, 6, 6, 6, 6, 6, 6, 6, 6, 6, 6, 6, 6, 6, 6, 6, 6, 6, 6, 6, 6, 6, 6, 6, 6, 6, 6, 6, 6, 6, 6, 6, 6] [7, 7, 7, 7, 7, 7, 7, 7, 7, 7, 7, 7, 7, 7, 7, 7, 7, 7, 7, 7, 7, 7, 7, 7, 7, 7, 7, 7, 7, 7, 7, 7, 7, 7, 7, 7, 7, 7, 7, 7, 7, 7, 7, 7, 7, 7, 7, 7, 7, 7, 7, 7, 7, 7, 7, 7, 7, 7, 7, 7, 7, 7, 7, 7]) (List.append [8, 8, 8, 8, 8, 8, 8, 8, 8, 8, 8, 8, 8, 8, 8, 8, 8, 8, 8, 8, 8, 8, 8, 8, 8, 8, 8, 8, 8, 8, 8, 8, 8, 8, 8, 8, 8, 8, 8, 8, 8, 8, 8, 8, 8, 8, 8, 8, 8, 8, 8, 8, 8, 8, 8, 8, 8, 8, 8, 8, 8, 8, 8, 8] [8, 8, 8, 8, 8, 8, 8, 8, 8, 8, 8, 8, 8, 8, 8, 8, 8, 8, 8, 8, 8, 8, 8, 8, 8, 8, 8, 8, 8, 8, 8, 8, 8, 8, 8, 8, 8, 8, 8, 8, 8, 8, 8, 8, 8, 8, 8, 8, 8, 8, 8, 8, 8, 8, 8, 8, 8, 8, 8, 8, 8, 8, 8, 8])) : List UInt8).getD (Int.toNat (IntKind.u8.wrap (Int.fdiv (Int.fdiv a0 65536) 256))) 0).toNat : Int))))) else none) else (if (0 : Int) ≤ (IntKind.u8.wrap (Int.fdiv a0 65536)) ∧ (IntKind.u8.wrap (Int.fdiv a0 65536)) < (((List.append (List.append [0, 1, 2, 2, 3, 3, 3, 3, 4, 4, 4, 4, 4, 4, 4, 4, 5, 5, 5, 5, 5, 5, 5, 5, 5, 5, 5, 5, 5, 5, 5, 5, 6, 6, 6, 6, 6, 6, 6, 6, 6, 6, 6, 6, 6, 6, 6, 6, 6, 6, 6, 6, 6, 6, 6, 6, 6, 6, 6, 6, 6, 6, 6, 6] [7, 7, 7, 7, 7, 7, 7, 7, 7, 7, 7, 7, 7, 7, 7, 7, 7, 7, 7, 7, 7, 7, 7, 7, 7, 7, 7, 7, 7, 7, 7, 7, 7, 7, 7, 7, 7, 7, 7, 7, 7, 7, 7, 7, 7, 7, 7, 7, 7, 7, 7, 7, 7, 7, 7, 7, 7, 7, 7, 7, 7, 7, 7, 7]) (List.append [8, 8, 8, 8, 8, 8, 8, 8, 8, 8, 8, 8, 8, 8, 8, 8, 8, 8, 8, 8, 8, 8, 8, 8, 8, 8, 8, 8, 8, 8, 8, 8, 8, 8, 8, 8, 8, 8, 8, 8, 8, 8, 8, 8, 8, 8, 8, 8, 8, 8, 8, 8, 8, 8, 8, 8, 8, 8, 8, 8, 8, 8, 8, 8] [8, 8, 8, 8, 8, 8, 8, 8, 8, 8, 8, 8, 8, 8, 8, 8, 8, 8, 8, 8, 8, 8, 8, 8, 8, 8, 8, 8, 8, 8, 8, 8, 8, 8, 8, 8, 8, 8, 8, 8, 8, 8, 8, 8, 8, 8, 8, 8, 8, 8, 8, 8, 8, 8, 8, 8, 8, 8, 8, 8, 8, 8, 8, 8])) : List UInt8).length : Int) then (some (IntKind.i64.wrap (16 + (IntKind.i64.wrap ((((List.append (List.append [0, 1, 2, 2, 3, 3, 3, 3, 4, 4, 4, 4, 4, 4, 4, 4, 5, 5, 5, 5, 5, 5, 5, 5, 5, 5, 5, 5, 5, 5, 5, 5, 6, 6, 6, 6, 6, 6, 6, 6, 6, 6, 6, 6, 6, 6, 6, 6, 6, 6, 6, 6, 6, 6, 6, 6, 6, 6, 6, 6, 6, 6, 6, 6] [7, 7, 7, 7, 7, 7, 7, 7, 7, 7, 7, 7, 7, 7, 7, 7, 7, 7, 7, 7, 7, 7, 7, 7, 7, 7, 7, 7, 7, 7, 7, 7, 7, 7, 7, 7, 7, 7, 7, 7, 7, 7, 7, 7, 7, 7, 7, 7, 7, 7, 7, 7, 7, 7, 7, 7, 7, 7, 7, 7, 7, 7, 7, 7]) (List.append [8, 8, 8, 8, 8, 8, 8, 8, 8, 8, 8, 8, 8, 8, 8, 8, 8, 8, 8, 8, 8, 8, 8, 8, 8, 8, 8, 8, 8, 8, 8, 8, 8, 8, 8, 8, 8, 8, 8, 8, 8, 8, 8, 8, 8, 8, 8, 8, 8, 8, 8, 8, 8, 8, 8, 8, 8, 8, 8, 8, 8, 8, 8, 8] [8, 8, 8, 8, 8, 8, 8, 8, 8, 8, 8, 8, 8, 8, 8, 8, 8, 8, 8, 8, 8, 8, 8, 8, 8, 8, 8, 8, 8, 8, 8, 8, 8, 8, 8, 8, 8, 8, 8, 8, 8, 8, 8, 8, 8, 8, 8, 8, 8, 8, 8, 8, 8, 8, 8, 8, 8, 8, 8, 8, 8, 8, 8, 8])) : List UInt8).getD (Int.toNat (IntKind.u8.wrap (Int.fdiv a0 65536))) 0).toNat : Int))))) else none)) else (if 256 ≤ a0 then (if (0 : Int) ≤ (IntKind.u8.wrap (Int.fdiv a0 256)) ∧ (IntKind.u8.wrap (Int.fdiv a0 256)) < (((List.append (List.append [0, 1, 2, 2, 3, 3, 3, 3, 4, 4, 4, 4, 4, 4, 4, 4, 5, 5, 5, 5, 5, 5, 5, 5, 5, 5, 5, 5, 5, 5, 5, 5, 6, 6, 6, 6, 6, 6, 6, 6, 6, 6, 6, 6, 6, 6, 6, 6, 6, 6, 6, 6, 6, 6, 6, 6, 6, 6, 6, 6, 6, 6, 6, 6] [7, 7, 7, 7, 7, 7, 7, 7, 7, 7, 7, 7, 7, 7, 7, 7, 7, 7, 7, 7, 7, 7, 7, 7, 7, 7, 7, 7, 7, 7, 7, 7, 7, 7, 7, 7, 7, 7, 7, 7, 7, 7, 7, 7, 7, 7, 7, 7, 7, 7, 7, 7, 7, 7, 7, 7, 7, 7, 7, 7, 7, 7, 7, 7]) (List.append [8, 8, 8, 8, 8, 8, 8, 8, 8, 8, 8, 8, 8, 8, 8, 8, 8, 8, 8, 8, 8, 8, 8, 8, 8, 8, 8, 8, 8, 8, 8, 8, 8, 8, 8, 8, 8, 8, 8, 8, 8, 8, 8, 8, 8, 8, 8, 8, 8, 8, 8, 8, 8, 8, 8, 8, 8, 8, 8, 8, 8, 8, 8, 8] [8, 8, 8, 8, 8, 8, 8, 8, 8, 8, 8, 8, 8, 8, 8, 8, 8, 8, 8, 8, 8, 8, 8, 8, 8, 8, 8, 8, 8, 8, 8, 8, 8, 8, 8, 8, 8, 8, 8, 8, 8, 8, 8, 8, 8, 8, 8, 8, 8, 8, 8, 8, 8, 8, 8, 8, 8, 8, 8, 8, 8, 8, 8, 8])) : List UInt8).length : Int) then (some (IntKind.i64.wrap (8 + (IntKind.i64.wrap ((((List.append (List.append [0, 1, 2, 2, 3, 3, 3, 3, 4, 4, 4, 4, 4, 4, 4, 4, 5, 5, 5, 5, 5, 5, 5, 5, 5, 5, 5, 5, 5, 5, 5, 5, 6, 6, 6, 6, 6, 6, 6, 6, 6, 6, 6, 6, 6, 6, 6, 6, 6, 6, 6, 6, 6, 6, 6, 6, 6, 6, 6, 6, 6, 6, 6, 6] [7, 7, 7, 7, 7, 7, 7, 7, 7, 7, 7, 7, 7, 7, 7, 7, 7, 7, 7, 7, 7, 7, 7, 7, 7, 7, 7, 7, 7, 7, 7, 7, 7, 7, 7, 7, 7, 7, 7, 7, 7, 7, 7, 7, 7, 7, 7, 7, 7, 7, 7, 7, 7, 7, 7, 7, 7, 7, 7, 7, 7, 7, 7, 7]) (List.append [8, 8, 8, 8, 8, 8, 8, 8, 8, 8, 8, 8, 8, 8, 8, 8, 8, 8, 8, 8, 8, 8, 8, 8, 8, 8, 8, 8, 8, 8, 8, 8, 8, 8, 8, 8, 8, 8, 8, 8, 8, 8, 8, 8, 8, 8, 8, 8, 8, 8, 8, 8, 8, 8, 8, 8, 8, 8, 8, 8, 8, 8, 8, 8] [8, 8, 8, 8, 8, 8, 8, 8, 8, 8, 8, 8, 8, 8, 8, 8, 8, 8, 8, 8, 8, 8, 8, 8, 8, 8, 8, 8, 8, 8, 8, 8, 8, 8, 8, 8, 8, 8, 8, 8, 8, 8, 8, 8, 8, 8, 8, 8, 8, 8, 8, 8, 8, 8, 8, 8, 8, 8, 8, 8, 8, 8, 8, 8])) : List UInt8).getD (Int.toNat (IntKind.u8.wrap (Int.fdiv a0 256))) 0).toNat : Int))))) else none) else (if (0 : Int) ≤ (IntKind.u8.wrap a0) ∧ (IntKind.u8.wrap a0) < (((List.append (List.append [0, 1, 2, 2, 3, 3, 3, 3, 4, 4, 4, 4, 4, 4, 4, 4, 5, 5, 5, 5, 5, 5, 5, 5, 5, 5, 5, 5, 5, 5, 5, 5, 6, 6, 6, 6, 6, 6, 6, 6, 6, 6, 6, 6, 6, 6, 6, 6, 6, 6, 6, 6, 6, 6, 6, 6, 6, 6, 6, 6, 6, 6, 6, 6] [7, 7, 7, 7, 7, 7, 7, 7, 7, 7, 7, 7, 7, 7, 7, 7, 7, 7, 7, 7, 7, 7, 7, 7, 7, 7, 7, 7, 7, 7, 7, 7, 7, 7, 7, 7, 7, 7, 7, 7, 7, 7, 7, 7, 7, 7, 7, 7, 7, 7, 7, 7, 7, 7, 7, 7, 7, 7, 7, 7, 7, 7, 7, 7]) (List.append [8, 8, 8, 8, 8, 8, 8, 8, 8, 8, 8, 8, 8, 8, 8, 8, 8, 8, 8, 8, 8, 8, 8, 8, 8, 8, 8, 8, 8, 8, 8, 8, 8, 8, 8, 8, 8, 8, 8, 8, 8, 8, 8, 8, 8, 8, 8, 8, 8, 8, 8, 8, 8, 8, 8, 8, 8, 8, 8, 8, 8, 8, 8, 8] [8, 8, 8, 8, 8, 8, 8, 8, 8, 8, 8, 8, 8, 8, 8, 8, 8, 8, 8, 8, 8, 8, 8, 8, 8, 8, 8, 8, 8, 8, 8, 8, 8, 8, 8, 8, 8, 8, 8, 8, 8, 8, 8, 8, 8, 8, 8, 8, 8, 8, 8, 8, 8, 8, 8, 8, 8, 8, 8, 8, 8, 8, 8, 8])) : List UInt8).length : Int) then (some (IntKind.i64.wrap (0 + (IntKind.i64.wrap ((((List.append (List.append [0, 1, 2, 2, 3, 3, 3, 3, 4, 4, 4, 4, 4, 4, 4, 4, 5, 5, 5, 5, 5, 5, 5, 5, 5, 5, 5, 5, 5, 5, 5, 5, 6, 6, 6, 6, 6, 6, 6, 6, 6, 6, 6, 6, 6, 6, 6, 6, 6, 6, 6, 6, 6, 6, 6, 6, 6, 6, 6, 6, 6, 6, 6, 6] [7, 7, 7, 7, 7, 7, 7, 7, 7, 7, 7, 7, 7, 7, 7, 7, 7, 7, 7, 7, 7, 7, 7, 7, 7, 7, 7, 7, 7, 7, 7, 7, 7, 7, 7, 7, 7, 7, 7, 7, 7, 7, 7, 7, 7, 7, 7, 7, 7, 7, 7, 7, 7, 7, 7, 7, 7, 7, 7, 7, 7, 7, 7, 7]) (List.append [8, 8, 8, 8, 8, 8, 8, 8, 8, 8, 8, 8, 8, 8, 8, 8, 8, 8, 8, 8, 8, 8, 8, 8, 8, 8, 8, 8, 8, 8, 8, 8, 8, 8, 8, 8, 8, 8, 8, 8, 8, 8, 8, 8, 8, 8, 8, 8, 8, 8, 8, 8, 8, 8, 8, 8, 8, 8, 8, 8, 8, 8, 8, 8] [8, 8, 8, 8, 8, 8, 8, 8, 8, 8, 8, 8, 8, 8, 8, 8, 8, 8, 8, 8, 8, 8, 8, 8, 8, 8, 8, 8, 8, 8, 8, 8, 8, 8, 8, 8, 8, 8, 8, 8, 8, 8, 8, 8, 8, 8, 8, 8, 8, 8, 8, 8, 8, 8, 8, 8, 8, 8, 8, 8, 8, 8, 8, 8])) : List UInt8).getD (Int.toNat (IntKind.u8.wrap a0)) 0).toNat : Int))))) else none)))
theorem c111 (B : Nat) (w0 : World) (n : Nat) (a0 : Int) (H : AHeap) (K : AV → AHeap → Prop) (r : (Int)) (hg : g111 n a0 = some r)  (hK : K (.int .i64 r) H) : ACall Tryz.prog B w0 111 [.int .u64 a0] H K := by
 unfold g111 at hg
 refine ACall.enter Tryz.func111 (by kernel_rfl) rfl (eawp_sound noY_sound _ _ _ _ ?_)
 have hE : Ext H H := Ext.refl H
 simp only [EVA, reduceIte, reduceCtorEq, Tryz.ntmps111, rs111, (show IntKind.i64.wrap 48 = 48 from rfl), (show IntKind.i64.wrap 56 = 56 from rfl), (show IntKind.i64.wrap 40 = 40 from rfl), (show IntKind.i64.wrap 16 = 16 from rfl), (show IntKind.i64.wrap 24 = 24 from rfl), (show IntKind.i64.wrap 8 = 8 from rfl)]
 rcases ite_some hg with ⟨h1, hg⟩ | ⟨h1, hg⟩
 ·refine Br.yes h1 ?_
  simp only [EVA, reduceIte, reduceCtorEq, eq_true h1, (show IntKind.i64.wrap 48 = 48 from rfl), (show IntKind.i64.wrap 56 = 56 from rfl), (show IntKind.i64.wrap 40 = 40 from rfl), (show IntKind.i64.wrap 16 = 16 from rfl), (show IntKind.i64.wrap 24 = 24 from rfl), (show IntKind.i64.wrap 8 = 8 from rfl)]
  rcases ite_some hg with ⟨h2, hg⟩ | ⟨h2, hg⟩
  ·refine Br.yes h2 ?_
   simp only [EVA, reduceIte, reduceCtorEq, eq_true h1, eq_true h2, (show IntKind.i64.wrap 48 = 48 from rfl), (show IntKind.i64.wrap 56 = 56 from rfl), (show IntKind.i64.wrap 40 = 40 from rfl), (show IntKind.i64.wrap 16 = 16 from rfl), (show IntKind.i64.wrap 24 = 24 from rfl), (show IntKind.i64.wrap 8 = 8 from rfl)]
   rcases ite_some hg with ⟨h3, hg⟩ | ⟨h3, hg⟩
   ·refine Br.yes h3 ?_
    obtain ⟨h4, hg⟩ := guard_some hg
    simp only [EVA, reduceIte, reduceCtorEq, rs111, eq_true h1, eq_true h2, eq_true h3, eq_true h4.1, eq_true h4.2, (show IntKind.i64.wrap 48 = 48 from rfl), (show IntKind.i64.wrap 56 = 56 from rfl), (show IntKind.i64.wrap 40 = 40 from rfl), (show IntKind.i64.wrap 16 = 16 from rfl), (show IntKind.i64.wrap 24 = 24 from rfl), (show IntKind.i64.wrap 8 = 8 from rfl)]
    obtain rfl := Option.some.inj hg
    exact hK
   ·refine Br.no h3 ?_
    obtain ⟨h5, hg⟩ := guard_some hg
    simp only [EVA, reduceIte, reduceCtorEq, rs111, eq_true h1, eq_true h2, eq_false h3, eq_true h5.1, eq_true h5.2, (show IntKind.i64.wrap 48 = 48 from rfl), (show IntKind.i64.wrap 56 = 56 from rfl), (show IntKind.i64.wrap 40 = 40 from rfl), (show IntKind.i64.wrap 16 = 16 from rfl), (show IntKind.i64.wrap 24 = 24 from rfl), (show IntKind.i64.wrap 8 = 8 from rfl)]
    obtain rfl := Option.some.inj hg
    exact hK
  ·refine Br.no h2 ?_
   simp only [EVA, reduceIte, reduceCtorEq, eq_true h1, eq_false h2, (show IntKind.i64.wrap 48 = 48 from rfl), (show IntKind.i64.wrap 56 = 56 from rfl), (show IntKind.i64.wrap 40 = 40 from rfl), (show IntKind.i64.wrap 16 = 16 from rfl), (show IntKind.i64.wrap 24 = 24 from rfl), (show IntKind.i64.wrap 8 = 8 from rfl)]
   rcases ite_some hg with ⟨h6, hg⟩ | ⟨h6, hg⟩
   ·refine Br.yes h6 ?_
    obtain ⟨h7, hg⟩ := guard_some hg
    simp only [EVA, reduceIte, reduceCtorEq, rs111, eq_true h1, eq_false h2, eq_true h6, eq_true h7.1, eq_true h7.2, (show IntKind.i64.wrap 48 = 48 from rfl), (show IntKind.i64.wrap 56 = 56 from rfl), (show IntKind.i64.wrap 40 = 40 from rfl), (show IntKind.i64.wrap 16 = 16 from rfl), (show IntKind.i64.wrap 24 = 24 from rfl), (show IntKind.i64.wrap 8 = 8 from rfl)]
    obtain rfl := Option.some.inj hg
    exact hK
   ·refine Br.no h6 ?_
    obtain ⟨h8, hg⟩ := guard_some hg
    simp only [EVA, reduceIte, reduceCtorEq, rs111, eq_true h1, eq_false h2, eq_false h6, eq_true h8.1, eq_true h8.2, (show IntKind.i64.wrap 48 = 48 from rfl), (show IntKind.i64.wrap 56 = 56 from rfl), (show IntKind.i64.wrap 40 = 40 from rfl), (show IntKind.i64.wrap 16 = 16 from rfl), (show IntKind.i64.wrap 24 = 24 from rfl), (show IntKind.i64.wrap 8 = 8 from rfl)]
    obtain rfl := Option.some.inj hg
    exact hK
 ·refine Br.no h1 ?_
  simp only [EVA, reduceIte, reduceCtorEq, eq_false h1, (show IntKind.i64.wrap 48 = 48 from rfl), (show IntKind.i64.wrap 56 = 56 from rfl), (show IntKind.i64.wrap 40 = 40 from rfl), (show IntKind.i64.wrap 16 = 16 from rfl), (show IntKind.i64.wrap 24 = 24 from rfl), (show IntKind.i64.wrap 8 = 8 from rfl)]
  rcases ite_some hg with ⟨h9, hg⟩ | ⟨h9, hg⟩
  ·refine Br.yes h9 ?_
   simp only [EVA, reduceIte, reduceCtorEq, eq_false h1, eq_true h9, (show IntKind.i64.wrap 48 = 48 from rfl), (show IntKind.i64.wrap 56 = 56 from rfl), (show IntKind.i64.wrap 40 = 40 from rfl), (show IntKind.i64.wrap 16 = 16 from rfl), (show IntKind.i64.wrap 24 = 24 from rfl), (show IntKind.i64.wrap 8 = 8 from rfl)]
   rcases ite_some hg with ⟨h10, hg⟩ | ⟨h10, hg⟩
   ·refine Br.yes h10 ?_
    obtain ⟨h11, hg⟩ := guard_some hg
    simp only [EVA, reduceIte, reduceCtorEq, rs111, eq_false h1, eq_true h9, eq_true h10, eq_true h11.1, eq_true h11.2, (show IntKind.i64.wrap 48 = 48 from rfl), (show IntKind.i64.wrap 56 = 56 from rfl), (show IntKind.i64.wrap 40 = 40 from rfl), (show IntKind.i64.wrap 16 = 16 from rfl), (show IntKind.i64.wrap 24 = 24 from rfl), (show IntKind.i64.wrap 8 = 8 from rfl)]
    obtain rfl := Option.some.inj hg
    exact hK
   ·refine Br.no h10 ?_
    obtain ⟨h12, hg⟩ := guard_some hg
    simp only [EVA, reduceIte, reduceCtorEq, rs111, eq_false h1, eq_true h9, eq_false h10, eq_true h12.1, eq_true h12.2, (show IntKind.i64.wrap 48 = 48 from rfl), (show IntKind.i64.wrap 56 = 56 from rfl), (show IntKind.i64.wrap 40 = 40 from rfl), (show IntKind.i64.wrap 16 = 16 from rfl), (show IntKind.i64.wrap 24 = 24 from rfl), (show IntKind.i64.wrap 8 = 8 from rfl)]
    obtain rfl := Option.some.inj hg
    exact hK
  ·refine Br.no h9 ?_
   simp only [EVA, reduceIte, reduceCtorEq, eq_false h1, eq_false h9, (show IntKind.i64.wrap 48 = 48 from rfl), (show IntKind.i64.wrap 56 = 56 from rfl), (show IntKind.i64.wrap 40 = 40 from rfl), (show IntKind.i64.wrap 16 = 16 from rfl), (show IntKind.i64.wrap 24 = 24 from rfl), (show IntKind.i64.wrap 8 = 8 from rfl)]
   rcases ite_some hg with ⟨h13, hg⟩ | ⟨h13, hg⟩
   ·refine Br.yes h13 ?_
    obtain ⟨h14, hg⟩ := guard_some hg
    simp only [EVA, reduceIte, reduceCtorEq, rs111, eq_false h1, eq_false h9, eq_true h13, eq_true h14.1, eq_true h14.2, (show IntKind.i64.wrap 48 = 48 from rfl), (show IntKind.i64.wrap 56 = 56 from rfl), (show IntKind.i64.wrap 40 = 40 from rfl), (show IntKind.i64.wrap 16 = 16 from rfl), (show IntKind.i64.wrap 24 = 24 from rfl), (show IntKind.i64.wrap 8 = 8 from rfl)]
    obtain rfl := Option.some.inj hg
    exact hK
   ·refine Br.no h13 ?_
    obtain ⟨h15, hg⟩ := guard_some hg
    simp only [EVA, reduceIte, reduceCtorEq, rs111, eq_false h1, eq_false h9, eq_false h13, eq_true h15.1, eq_true h15.2, (show IntKind.i64.wrap 48 = 48 from rfl), (show IntKind.i64.wrap 56 = 56 from rfl), (show IntKind.i64.wrap 40 = 40 from rfl), (show IntKind.i64.wrap 16 = 16 from rfl), (show IntKind.i64.wrap 24 = 24 from rfl), (show IntKind.i64.wrap 8 = 8 from rfl)]
    obtain rfl := Option.some.inj hg
    exact hK
/-- math/bits.Len -/
theorem rs89 : Tryz.f89.results.toList = [.tmp 2] := rfl
def g89 (n : Nat) (a0 : Int) : Option (Int) := (g111 n a0).bind fun v1 => some v1
theorem c89 (B : Nat) (w0 : World) (n : Nat) (a0 : Int) (H : AHeap) (K : AV → AHeap → Prop) (r : (Int)) (hg : g89 n a0 = some r)  (hK : K (.int .i64 r) H) : ACall Tryz.prog B w0 89 [.int .u64 a0] H K := by
 unfold g89 at hg
 refine ACall.enter Tryz.func89 (by kernel_rfl) rfl (eawp_sound noY_sound _ _ _ _ ?_)
 have hE : Ext H H := Ext.refl H
 simp only [EVA, reduceIte, reduceCtorEq, Tryz.ntmps89, rs89]
 obtain ⟨v1, ch2, hg⟩ := bind_some hg
 refine ACall.wkA (args := [.int .u64 a0]) (c111 B w0 n a0 _ _ v1 ch2  ?_) (WkA.r WkA.nil)
 simp only [EVA, reduceIte, reduceCtorEq, rs89]
 obtain rfl := Option.some.inj hg
 exact hK
/-- slices.pdqsortOrdered[uint64] -/
def l88_0 (n : Nat) (a0 : List Int) (za0 : Nat) (a1 : Int) (a2 : Int) (a3 : Int) : Nat → Option (List Int)
 | 0 => none
 | k1 + 1 => if (IntKind.i64.wrap (a2 - a1)) ≤ 12 then ((g101 n a0 za0 a1 a2).bind fun v4 => some v4) else (if a3 = 0 then (none) else (none))
theorem rs88 : Tryz.f88.results.toList = [] := rfl
def g88 (n : Nat) (a0 : List Int) (za0 : Nat) (a1 : Int) (a2 : Int) (a3 : Int) : Option (List Int) := l88_0 n a0 za0 a1 a2 a3 n 
theorem c88 (B : Nat) (w0 : World) (n : Nat) (a0 : List Int) (za0 : Nat) (a1 : Int) (a2 : Int) (a3 : Int) (pa0 : Nat) (fs : List (Nat × AObj)) (ts : List Tail) (H0 H : AHeap) (K : AV → AHeap → Prop) (r : (List Int)) (hg : g88 n a0 za0 a1 a2 a3 = some r) (hE : Ext H0 H) (g_pa0 : H0.length ≤ pa0) (f_pa0 : H[pa0]? = some (.cells (List.map (AV.int .u64) a0))) (nf_pa0 : Nf fs pa0) (hfo : FrObj H fs) (hft : FrTl H0 H ts) (hK : ∀ (H' : AHeap), Ext H0 H' → H'[pa0]? = some (.cells (List.map (AV.int .u64) r)) → FrObj H' fs → FrTl H0 H' ts → K (.tup []) H') : ACall Tryz.prog B w0 88 [.sl 1 pa0 0 za0, .int .i64 a1, .int .i64 a2, .int .i64 a3] H K := by
 unfold g88 at hg
 refine ACall.enter Tryz.func88 (by kernel_rfl) rfl (eawp_sound noY_sound _ _ _ _ ?_)
 simp only [EVA, reduceIte, reduceCtorEq, Tryz.ntmps88, rs88, f_pa0]
 refine AWP.loop (σ := Nat) (fun s => [.sl 1 pa0 0 za0, .int .i64 a1, .int .i64 a2, .int .i64 a3, .undef, .undef, .undef, .undef, .bool true, .bool true, .undef, .undef, .undef, .undef, .undef, .undef, .undef, .undef, .undef, .undef, .undef, .undef, .undef, .undef, .undef, .undef, .undef, .undef, .undef, .undef, .undef, .undef, .undef, .undef, .undef, .undef, .undef, .undef, .undef, .undef, .undef, .undef, .undef, .undef, .undef, .undef, .undef, .undef, .undef, .undef, .undef, .undef, .undef, .undef, .undef, .undef, .undef, .undef, .undef, .undef, .undef, .undef, .undef, .undef, .undef, .undef, .undef, .undef, .undef, .undef, .undef, .undef, .undef, .undef, .undef, .undef, .undef, .undef, .undef, .undef, .undef, .undef, .undef, .undef, .undef, .undef, .undef, .undef, .undef, .undef, .undef, .undef, .undef, .undef, .undef, .undef, .undef, .undef, .undef, .undef, .undef, .undef, .undef, .undef, .undef, .undef, .undef, .undef, .undef, .undef, .undef, .undef, .undef, .undef, .undef, .undef, .undef, .undef, .undef, .undef, .undef, .undef, .undef, .undef, .undef, .undef, .undef, .undef, .undef, .undef, .undef, .undef, .undef, .undef]) (fun s H' => l88_0 n a0 za0 a1 a2 a3 s = some r ∧ SameH H H') (fun s => s) ⟨n, (by repeat' first | exact Wk.nil | apply Wk.u | apply Wk.r), ⟨hg, (rfl : SameH _ _)⟩⟩ ?_
 rintro k1 H2 ⟨hg, hH9⟩ _
 unfold SameH at hH9
 subst hH9
 try dsimp only at hg
 cases k1 with
 | zero => simp only [l88_0, reduceCtorEq] at hg
 | succ k1 =>
  rw [l88_0] at hg
  refine eawp_sound noY_sound _ _ _ _ ?_
  simp only [EVA, reduceIte, reduceCtorEq, f_pa0]
  rcases ite_some hg with ⟨h3, hg⟩ | ⟨h3, hg⟩
  ·refine Br.yes h3 ?_
   simp only [EVA, reduceIte, reduceCtorEq, eq_true h3, f_pa0]
   obtain ⟨v4, ch5, hg⟩ := bind_some hg
   refine ACall.wkA (args := [.sl 1 pa0 0 za0, .int .i64 a1, .int .i64 a2]) (c101 B w0 n a0 za0 a1 a2 pa0 (fs) (ts) H0 _ _ v4 ch5 hE g_pa0 f_pa0 nf_pa0 hfo hft ?_) (WkA.r (WkA.r (WkA.r WkA.nil)))
   intro H6 hE f9_pa0 hfo9 hft9
   have f_pa0 : H6[pa0]? = some (.cells (List.map (AV.int .u64) v4)) := f9_pa0
   have hfo := hfo9
   have hft := hft9
   simp only [EVA, reduceIte, reduceCtorEq, rs88, eq_true h3, f_pa0]
   obtain rfl := Option.some.inj hg
   exact (hK  _ hE f_pa0 hfo hft)
  ·refine Br.no h3 ?_
   simp only [EVA, reduceIte, reduceCtorEq, eq_false h3, f_pa0]
   rcases ite_some hg with ⟨h7, hg⟩ | ⟨h7, hg⟩
   ·refine Br.yes h7 ?_
    cases hg
   ·refine Br.no h7 ?_
    cases hg
/-- slices.Sort[[]uint64,uint64] -/
theorem rs63 : Tryz.f63.results.toList = [] := rfl
def g63 (n : Nat) (a0 : List Int) (za0 : Nat) : Option (List Int) := (g89 n (IntKind.u64.wrap ((za0 : Nat) : Int))).bind fun v1 => (g88 n a0 za0 0 ((za0 : Nat) : Int) v1).bind fun v3 => some v3
theorem c63 (B : Nat) (w0 : World) (n : Nat) (a0 : List Int) (za0 : Nat) (pa0 : Nat) (fs : List (Nat × AObj)) (ts : List Tail) (H0 H : AHeap) (K : AV → AHeap → Prop) (r : (List Int)) (hg : g63 n a0 za0 = some r) (hE : Ext H0 H) (g_pa0 : H0.length ≤ pa0) (f_pa0 : H[pa0]? = some (.cells (List.map (AV.int .u64) a0))) (nf_pa0 : Nf fs pa0) (hfo : FrObj H fs) (hft : FrTl H0 H ts) (hK : ∀ (H' : AHeap), Ext H0 H' → H'[pa0]? = some (.cells (List.map (AV.int .u64) r)) → FrObj H' fs → FrTl H0 H' ts → K (.tup []) H') : ACall Tryz.prog B w0 63 [.sl 1 pa0 0 za0] H K := by
 unfold g63 at hg
 refine ACall.enter Tryz.func63 (by kernel_rfl) rfl (eawp_sound noY_sound _ _ _ _ ?_)
 simp only [EVA, reduceIte, reduceCtorEq, Tryz.ntmps63, rs63, f_pa0]
 obtain ⟨v1, ch2, hg⟩ := bind_some hg
 refine ACall.wkA (args := [.int .u64 (IntKind.u64.wrap ((za0 : Nat) : Int))]) (c89 B w0 n (IntKind.u64.wrap ((za0 : Nat) : Int)) _ _ v1 ch2  ?_) (WkA.r WkA.nil)
 simp only [EVA, reduceIte, reduceCtorEq, f_pa0]
 obtain ⟨v3, ch4, hg⟩ := bind_some hg
 refine ACall.wkA (args := [.sl 1 pa0 0 za0, .int .i64 0, .int .i64 ((za0 : Nat) : Int), .int .i64 v1]) (c88 B w0 n a0 za0 0 ((za0 : Nat) : Int) v1 pa0 (fs) (ts) H0 _ _ v3 ch4 hE g_pa0 f_pa0 nf_pa0 hfo hft ?_) (WkA.r (WkA.r (WkA.r (WkA.r WkA.nil))))
 intro H5 hE f9_pa0 hfo9 hft9
 have f_pa0 : H5[pa0]? = some (.cells (List.map (AV.int .u64) v3)) := f9_pa0
 have hfo := hfo9
 have hft := hft9
 simp only [EVA, reduceIte, reduceCtorEq, rs63, f_pa0]
 obtain rfl := Option.some.inj hg
 exact (hK  _ hE f_pa0 hfo hft)
/-- slices.Compact[[]uint64,uint64] -/
def l64_1 (n : Nat) (za0 : Nat) (x2 : Int) : Nat → Int → Int → List Int → Option (Nat × List Int)
 | 0, _, _, _ => none
 | k17 + 1, x14, x15, x16 => if x15 < ((za0 - (Int.toNat x2) : Nat) : Int) then (if (0 : Int) ≤ x15 ∧ x15 < ((za0 - (Int.toNat x2) : Nat) : Int) then (if (Int.toNat x2 + (Int.toNat x15)) < x16.length then (if (0 : Int) ≤ (IntKind.i64.wrap (x15 - 1)) ∧ (IntKind.i64.wrap (x15 - 1)) < ((za0 - (Int.toNat x2) : Nat) : Int) then (if (Int.toNat x2 + (Int.toNat (IntKind.i64.wrap (x15 - 1)))) < x16.length then (if (rdn x16 (Int.toNat x2 + (Int.toNat x15))) = (rdn x16 (Int.toNat x2 + (Int.toNat (IntKind.i64.wrap (x15 - 1))))) then ((l64_1 n za0 x2 k17) x14 (IntKind.i64.wrap (x15 + 1)) x16) else (if (0 : Int) ≤ x15 ∧ x15 < ((za0 - (Int.toNat x2) : Nat) : Int) then (if (Int.toNat x2 + (Int.toNat x15)) < x16.length then (if (0 : Int) ≤ x14 ∧ x14 < ((za0 : Nat) : Int) then (if (Int.toNat x14) < x16.length then ((l64_1 n za0 x2 k17) (IntKind.i64.wrap (x14 + 1)) (IntKind.i64.wrap (x15 + 1)) (List.set x16 (Int.toNat x14) (rdn x16 (Int.toNat x2 + (Int.toNat x15))))) else none) else none) else none) else none)) else none) else none) else none) else none) else (if 0 ≤ x14 ∧ (Int.toNat x14 ≤ za0 ∧ za0 ≤ za0) ∧ ¬ (Int.toNat x14 = za0 ∧ ¬ Int.toNat x14 = 0) then (if (Int.toNat x14) + (za0 - (Int.toNat x14)) ≤ x16.length then (if 0 ≤ x14 ∧ (0 ≤ Int.toNat x14 ∧ Int.toNat x14 ≤ za0) then (some (Int.toNat x14, List.take (Int.toNat x14) x16 ++ List.replicate (za0 - (Int.toNat x14)) 0 ++ List.drop ((Int.toNat x14) + (za0 - (Int.toNat x14))) x16)) else none) else none) else none)
def l64_0 (n : Nat) (a0 : List Int) (za0 : Nat) : Nat → Int → Option (Nat × List Int)
 | 0, _ => none
 | k3 + 1, x2 => if x2 < ((za0 : Nat) : Int) then (if (0 : Int) ≤ x2 ∧ x2 < ((za0 : Nat) : Int) then (if (Int.toNat x2) < a0.length then (if (0 : Int) ≤ (IntKind.i64.wrap (x2 - 1)) ∧ (IntKind.i64.wrap (x2 - 1)) < ((za0 : Nat) : Int) then (if (Int.toNat (IntKind.i64.wrap (x2 - 1))) < a0.length then (if (rdn a0 (Int.toNat x2)) = (rdn a0 (Int.toNat (IntKind.i64.wrap (x2 - 1)))) then (if 0 ≤ x2 ∧ (Int.toNat x2 ≤ za0 ∧ za0 ≤ za0) ∧ ¬ (Int.toNat x2 = za0 ∧ ¬ Int.toNat x2 = 0) then (l64_1 n za0 x2 n x2 1 a0) else none) else ((l64_0 n a0 za0 k3) (IntKind.i64.wrap (x2 + 1)))) else none) else none) else none) else none) else (some (za0, a0))
theorem rs64 : Tryz.f64.results.toList = [.tmp 2] := rfl
def g64 (n : Nat) (a0 : List Int) (za0 : Nat) : Option (Nat × List Int) := if ((za0 : Nat) : Int) < 2 then (some (za0, a0)) else (l64_0 n a0 za0 n 1)
theorem c64 (B : Nat) (w0 : World) (n : Nat) (a0 : List Int) (za0 : Nat) (pa0 : Nat) (fs : List (Nat × AObj)) (ts : List Tail) (H0 H : AHeap) (K : AV → AHeap → Prop) (r : (Nat × List Int)) (hg : g64 n a0 za0 = some r) (hE : Ext H0 H) (g_pa0 : H0.length ≤ pa0) (f_pa0 : H[pa0]? = some (.cells (List.map (AV.int .u64) a0))) (nf_pa0 : Nf fs pa0) (hfo : FrObj H fs) (hft : FrTl H0 H ts) (hK : ∀ (H' : AHeap), Ext H0 H' → H'[pa0]? = some (.cells (List.map (AV.int .u64) r.2)) → FrObj H' fs → FrTl H0 H' ts → K (.sl 1 pa0 0 r.1) H') : ACall Tryz.prog B w0 64 [.sl 1 pa0 0 za0] H K := by
 unfold g64 at hg
 refine ACall.enter Tryz.func64 (by kernel_rfl) rfl (eawp_sound noY_sound _ _ _ _ ?_)
 simp only [EVA, reduceIte, reduceCtorEq, Tryz.ntmps64, rs64, f_pa0, (show IntKind.i64.wrap 0 = 0 from rfl), (show IntKind.i64.wrap 2 = 2 from rfl)]
 rcases ite_some hg with ⟨h1, hg⟩ | ⟨h1, hg⟩
 ·refine Br.yes h1 ?_
  simp only [EVA, reduceIte, reduceCtorEq, rs64, eq_true h1, f_pa0, (show IntKind.i64.wrap 0 = 0 from rfl), (show IntKind.i64.wrap 2 = 2 from rfl)]
  obtain rfl := Option.some.inj hg
  exact (hK  _ hE f_pa0 hfo hft)
 ·refine Br.no h1 ?_
  simp only [EVA, reduceIte, reduceCtorEq, eq_false h1, f_pa0, (show IntKind.i64.wrap 0 = 0 from rfl), (show IntKind.i64.wrap 2 = 2 from rfl)]
  refine AWP.loop (σ := Nat × Int) (fun s => [.sl 1 pa0 0 za0, .undef, .undef, .int .i64 s.2, .undef, .undef, .undef, .undef, .undef, .undef, .undef, .undef, .undef, .undef, .undef, .undef, .undef, .undef, .undef, .undef, .undef, .undef, .undef, .undef, .undef, .undef, .undef, .undef, .undef, .undef, .undef, .undef, .undef, .undef, .undef, .undef, .undef, .undef, .undef, .undef, .undef, .undef, .undef, .undef, .undef, .undef, .undef, .undef, .undef, .undef, .undef, .undef, .undef, .undef, .undef, .undef, .undef, .undef, .undef, .undef, .undef]) (fun s H' => l64_0 n a0 za0 s.1 s.2 = some r ∧ SameH H H') (fun s => s.1) ⟨⟨n, 1⟩, (by repeat' first | exact Wk.nil | apply Wk.u | apply Wk.r), ⟨hg, (rfl : SameH _ _)⟩⟩ ?_
  rintro ⟨k3, x2⟩ H4 ⟨hg, hH9⟩ _
  unfold SameH at hH9
  subst hH9
  try dsimp only at hg
  cases k3 with
  | zero => simp only [l64_0, reduceCtorEq] at hg
  | succ k3 =>
   rw [l64_0] at hg
   refine eawp_sound noY_sound _ _ _ _ ?_
   simp only [EVA, reduceIte, reduceCtorEq, eq_false h1, f_pa0, (show IntKind.i64.wrap 0 = 0 from rfl), (show IntKind.i64.wrap 2 = 2 from rfl)]
   rcases ite_some hg with ⟨h5, hg⟩ | ⟨h5, hg⟩
   ·refine Br.yes h5 ?_
    simp only [EVA, reduceIte, reduceCtorEq, eq_false h1, eq_true h5, f_pa0, (show IntKind.i64.wrap 0 = 0 from rfl), (show IntKind.i64.wrap 2 = 2 from rfl)]
    refine AWP.draw noY_sound [[], [], [0, 1], [0, 1, 2], [], [], [5], [4, 5, 6], [4, 5, 6, 7], [0, 1, 2, 3, 4, 5, 6, 7, 8]] [⟨0, false, []⟩, ⟨1, false, []⟩, ⟨2, false, []⟩, ⟨3, false, []⟩, ⟨4, false, []⟩, ⟨5, false, []⟩, ⟨6, false, []⟩, ⟨7, false, []⟩, ⟨8, false, []⟩, ⟨9, false, []⟩] [0, 1, 2, 3, 4, 5, 6, 7, 8, 9] [0, 1, 2, 3, 4, 5, 6, 7, 8, 9] (by kernel_rfl) ?_
    obtain ⟨h6, hg⟩ := guard_some hg
    obtain ⟨h7, hg⟩ := guard_some hg
    have q8 := rdn_map (AV.int .u64) h7
    obtain ⟨h9, hg⟩ := guard_some hg
    obtain ⟨h10, hg⟩ := guard_some hg
    have q11 := rdn_map (AV.int .u64) h10
    simp only [EVA, reduceIte, reduceCtorEq, eq_false h1, eq_true h5, eq_true h6.1, eq_true h6.2, q8, eq_true h9.1, eq_true h9.2, q11, f_pa0, (show IntKind.i64.wrap 0 = 0 from rfl), (show IntKind.i64.wrap 2 = 2 from rfl)]
    rcases ite_some hg with ⟨h12, hg⟩ | ⟨h12, hg⟩
    ·refine Br.yes h12 ?_
     obtain ⟨h13, hg⟩ := guard_some hg
     simp only [EVA, reduceIte, reduceCtorEq, eq_false h1, eq_true h5, eq_true h6.1, eq_true h6.2, q8, eq_true h9.1, eq_true h9.2, q11, eq_true h12, eq_true h13.1, eq_true h13.2.1.1, eq_true h13.2.1.2, if_neg h13.2.2, f_pa0, (show IntKind.i64.wrap 0 = 0 from rfl), (show IntKind.i64.wrap 2 = 2 from rfl)]
     refine AWP.loop (σ := Nat × Int × Int × List Int) (fun s => [.sl 1 pa0 0 za0, .undef, .undef, .int .i64 s.2.1, .sl 1 pa0 (Int.toNat x2) (za0 - (Int.toNat x2)), .int .i64 s.2.2.1, .undef, .undef, .undef, .undef, .undef, .undef, .undef, .undef, .undef, .undef, .undef, .undef, .undef, .undef, .undef, .undef, .undef, .undef, .undef, .undef, .undef, .undef, .undef, .undef, .undef, .undef, .undef, .undef, .undef, .undef, .undef, .undef, .undef, .undef, .undef, .undef, .undef, .undef, .undef, .undef, .undef, .undef, .undef, .undef, .undef, .undef, .undef, .undef, .undef, .undef, .undef, .undef, .undef, .undef, .undef]) (fun s H' => l64_1 n za0 x2 s.1 s.2.1 s.2.2.1 s.2.2.2 = some r ∧ Ext H0 H' ∧ ObjAt H' pa0 (List.map (AV.int .u64) s.2.2.2) ∧ FrObj H' fs ∧ FrTl H0 H' ts) (fun s => s.1) ⟨⟨n, x2, 1, a0⟩, (by repeat' first | exact Wk.nil | apply Wk.u | apply Wk.r), ⟨hg, hE, f_pa0, hfo, hft⟩⟩ ?_
     rintro ⟨k17, x14, x15, x16⟩ H18 ⟨hg, hE, f9_pa0, hfo, hft⟩ _
     have f_pa0 : H18[pa0]? = some (.cells (List.map (AV.int .u64) x16)) := f9_pa0
     clear f9_pa0
     try dsimp only at hg
     cases k17 with
     | zero => simp only [l64_1, reduceCtorEq] at hg
     | succ k17 =>
      rw [l64_1] at hg
      refine eawp_sound noY_sound _ _ _ _ ?_
      simp only [EVA, reduceIte, reduceCtorEq, eq_false h1, eq_true h5, eq_true h6.1, eq_true h6.2, q8, eq_true h9.1, eq_true h9.2, q11, eq_true h12, eq_true h13.1, eq_true h13.2.1.1, eq_true h13.2.1.2, if_neg h13.2.2, f_pa0, (show IntKind.i64.wrap 0 = 0 from rfl), (show IntKind.i64.wrap 2 = 2 from rfl)]
      rcases ite_some hg with ⟨h19, hg⟩ | ⟨h19, hg⟩
      ·refine Br.yes h19 ?_
       simp only [EVA, reduceIte, reduceCtorEq, eq_false h1, eq_true h5, eq_true h6.1, eq_true h6.2, q8, eq_true h9.1, eq_true h9.2, q11, eq_true h12, eq_true h13.1, eq_true h13.2.1.1, eq_true h13.2.1.2, if_neg h13.2.2, eq_true h19, f_pa0, (show IntKind.i64.wrap 0 = 0 from rfl), (show IntKind.i64.wrap 2 = 2 from rfl)]
       refine AWP.draw noY_sound [[], [], [0, 1], [0, 1, 2], [], [], [5], [4, 5, 6], [4, 5, 6, 7], [0, 1, 2, 3, 4, 5, 6, 7, 8]] [⟨0, false, []⟩, ⟨1, false, []⟩, ⟨2, false, []⟩, ⟨3, false, []⟩, ⟨4, false, []⟩, ⟨5, false, []⟩, ⟨6, false, []⟩, ⟨7, false, []⟩, ⟨8, false, []⟩, ⟨9, false, []⟩] [0, 1, 2, 3, 4, 5, 6, 7, 8, 9] [0, 1, 2, 3, 4, 5, 6, 7, 8, 9] (by kernel_rfl) ?_
       obtain ⟨h20, hg⟩ := guard_some hg
       obtain ⟨h21, hg⟩ := guard_some hg
       have q22 := rdn_map (AV.int .u64) h21
       obtain ⟨h23, hg⟩ := guard_some hg
       obtain ⟨h24, hg⟩ := guard_some hg
       have q25 := rdn_map (AV.int .u64) h24
       simp only [EVA, reduceIte, reduceCtorEq, eq_false h1, eq_true h5, eq_true h6.1, eq_true h6.2, q8, eq_true h9.1, eq_true h9.2, q11, eq_true h12, eq_true h13.1, eq_true h13.2.1.1, eq_true h13.2.1.2, if_neg h13.2.2, eq_true h19, eq_true h20.1, eq_true h20.2, q22, eq_true h23.1, eq_true h23.2, q25, f_pa0, (show IntKind.i64.wrap 0 = 0 from rfl), (show IntKind.i64.wrap 2 = 2 from rfl)]
       rcases ite_some hg with ⟨h26, hg⟩ | ⟨h26, hg⟩
       ·refine Br.yes h26 ?_
        simp only [EVA, reduceIte, reduceCtorEq, eq_false h1, eq_true h5, eq_true h6.1, eq_true h6.2, q8, eq_true h9.1, eq_true h9.2, q11, eq_true h12, eq_true h13.1, eq_true h13.2.1.1, eq_true h13.2.1.2, if_neg h13.2.2, eq_true h19, eq_true h20.1, eq_true h20.2, q22, eq_true h23.1, eq_true h23.2, q25, eq_true h26, f_pa0, (show IntKind.i64.wrap 0 = 0 from rfl), (show IntKind.i64.wrap 2 = 2 from rfl)]
        exact ⟨⟨k17, x14, IntKind.i64.wrap (x15 + 1), x16⟩, (by repeat' first | exact Wk.nil | apply Wk.u | apply Wk.r), ⟨hg, hE, f_pa0, hfo, hft⟩, Nat.lt_succ_self _⟩
       ·refine Br.no h26 ?_
        obtain ⟨h27, hg⟩ := guard_some hg
        obtain ⟨h28, hg⟩ := guard_some hg
        have q29 := rdn_map (AV.int .u64) h28
        obtain ⟨h30, hg⟩ := guard_some hg
        simp only [EVA, reduceIte, reduceCtorEq, eq_false h1, eq_true h5, eq_true h6.1, eq_true h6.2, q8, eq_true h9.1, eq_true h9.2, q11, eq_true h12, eq_true h13.1, eq_true h13.2.1.1, eq_true h13.2.1.2, if_neg h13.2.2, eq_true h19, eq_true h20.1, eq_true h20.2, q22, eq_true h23.1, eq_true h23.2, q25, eq_false h26, eq_true h27.1, eq_true h27.2, q29, eq_true h30.1, eq_true h30.2, f_pa0, (show IntKind.i64.wrap 0 = 0 from rfl), (show IntKind.i64.wrap 2 = 2 from rfl)]
        obtain ⟨h33, hg⟩ := guard_some hg
        refine eop_storeL_go (H0 := H0) (id := pa0) (off := (Int.toNat x14)) (AV.int .u64) (l := x16) (v := rdn x16 (Int.toNat x2 + (Int.toNat x15))) rfl rfl f_pa0 ty53 rfl rfl rfl h33 hE g_pa0 ?_
        intro H31 hE f9_pa0 p32 l9
        have hft := hft.keep f_pa0 p32
        have hfo := hfo.keep nf_pa0 p32
        have f_pa0 : H31[pa0]? = some (.cells (List.map (AV.int .u64) (List.set x16 (Int.toNat x14) (rdn x16 (Int.toNat x2 + (Int.toNat x15)))))) := f9_pa0
        simp only [EVA, reduceIte, reduceCtorEq, eq_false h1, eq_true h5, eq_true h6.1, eq_true h6.2, q8, eq_true h9.1, eq_true h9.2, q11, eq_true h12, eq_true h13.1, eq_true h13.2.1.1, eq_true h13.2.1.2, if_neg h13.2.2, eq_true h19, eq_true h20.1, eq_true h20.2, q22, eq_true h23.1, eq_true h23.2, q25, eq_false h26, eq_true h27.1, eq_true h27.2, q29, eq_true h30.1, eq_true h30.2, f_pa0, (show IntKind.i64.wrap 0 = 0 from rfl), (show IntKind.i64.wrap 2 = 2 from rfl)]
        exact ⟨⟨k17, IntKind.i64.wrap (x14 + 1), IntKind.i64.wrap (x15 + 1), List.set x16 (Int.toNat x14) (rdn x16 (Int.toNat x2 + (Int.toNat x15)))⟩, (by repeat' first | exact Wk.nil | apply Wk.u | apply Wk.r), ⟨hg, hE, f_pa0, hfo, hft⟩, Nat.lt_succ_self _⟩
      ·refine Br.no h19 ?_
       obtain ⟨h34, hg⟩ := guard_some hg
       simp only [EVA, reduceIte, reduceCtorEq, eq_false h1, eq_true h5, eq_true h6.1, eq_true h6.2, q8, eq_true h9.1, eq_true h9.2, q11, eq_true h12, eq_true h13.1, eq_true h13.2.1.1, eq_true h13.2.1.2, if_neg h13.2.2, eq_false h19, eq_true h34.1, eq_true h34.2.1.1, eq_true h34.2.1.2, if_neg h34.2.2, f_pa0, (show IntKind.i64.wrap 0 = 0 from rfl), (show IntKind.i64.wrap 2 = 2 from rfl)]
       obtain ⟨h37, hg⟩ := guard_some hg
       refine clrL_go (H0 := H0) (off := Int.toNat x14) (len := za0 - (Int.toNat x14)) (AV.int .u64) (l := x16) (zv := 0) ty27 rfl ty53 rfl rfl rfl rfl rfl f_pa0 h37 hE g_pa0 ?_
       intro H35 hE f9_pa0 p36 l9
       have hft := hft.keep f_pa0 p36
       have hfo := hfo.keep nf_pa0 p36
       have f_pa0 : H35[pa0]? = some (.cells (List.map (AV.int .u64) (List.take (Int.toNat x14) x16 ++ List.replicate (za0 - (Int.toNat x14)) 0 ++ List.drop ((Int.toNat x14) + (za0 - (Int.toNat x14))) x16))) := f9_pa0
       obtain ⟨h38, hg⟩ := guard_some hg
       simp only [EVA, reduceIte, reduceCtorEq, rs64, eq_false h1, eq_true h5, eq_true h6.1, eq_true h6.2, q8, eq_true h9.1, eq_true h9.2, q11, eq_true h12, eq_true h13.1, eq_true h13.2.1.1, eq_true h13.2.1.2, if_neg h13.2.2, eq_false h19, eq_true h34.1, eq_true h34.2.1.1, eq_true h34.2.1.2, if_neg h34.2.2, eq_true h38.1, eq_true h38.2.1, eq_true h38.2.2, f_pa0, (show IntKind.i64.wrap 0 = 0 from rfl), (show IntKind.i64.wrap 2 = 2 from rfl)]
       obtain rfl := Option.some.inj hg
       exact (hK  _ hE f_pa0 hfo hft)
    ·refine Br.no h12 ?_
     simp only [EVA, reduceIte, reduceCtorEq, eq_false h1, eq_true h5, eq_true h6.1, eq_true h6.2, q8, eq_true h9.1, eq_true h9.2, q11, eq_false h12, f_pa0, (show IntKind.i64.wrap 0 = 0 from rfl), (show IntKind.i64.wrap 2 = 2 from rfl)]
     exact ⟨⟨k3, IntKind.i64.wrap (x2 + 1)⟩, (by repeat' first | exact Wk.nil | apply Wk.u | apply Wk.r), ⟨hg, (rfl : SameH _ _)⟩, Nat.lt_succ_self _⟩
   ·refine Br.no h5 ?_
    simp only [EVA, reduceIte, reduceCtorEq, rs64, eq_false h1, eq_false h5, f_pa0, (show IntKind.i64.wrap 0 = 0 from rfl), (show IntKind.i64.wrap 2 = 2 from rfl)]
    obtain rfl := Option.some.inj hg
    exact (hK  _ hE f_pa0 hfo hft)
/-- slices.insertionSortOrdered[uint64] -/
def l101_0_0 (n : Nat) : Nat → Option Unit
 | 0 => none
 | k1 + 1 => some ()
theorem rs101_0 : Tryz.f101.results.toList = [] := rfl
def g101_0 (n : Nat)  : Option Unit := l101_0_0 n n 
theorem c101_0 (B : Nat) (w0 : World) (n : Nat)  (H : AHeap) (K : AV → AHeap → Prop) (r : Unit) (hg : g101_0 n  = some r)  (hK : K (.tup []) H) : ACall Tryz.prog B w0 101 [.dl 0 [] .full, .int .i64 0, .int .i64 0] H K := by
 unfold g101_0 at hg
 refine ACall.enter Tryz.func101 (by kernel_rfl) rfl (eawp_sound noY_sound _ _ _ _ ?_)
 have hE : Ext H H := Ext.refl H
 simp only [EVA, reduceIte, reduceCtorEq, Nat.reduceLT, Nat.reduceLeDiff, Int.reduceEq, Int.reduceLT, Int.reduceLE, Nat.reduceMul, Tryz.ntmps101, rs101_0, (show IntKind.i64.wrap 1 = 1 from rfl)]
 refine AWP.loop (σ := Nat) (fun s => [.dl 0 [] .full, .int .i64 0, .int .i64 0, .undef, .undef, .undef, .int .i64 1, .undef, .undef, .undef, .undef, .undef, .undef, .undef, .undef, .undef, .undef, .undef, .undef, .undef, .undef, .undef, .undef, .undef, .undef, .undef, .undef, .undef, .undef, .undef, .undef, .undef, .undef, .undef, .undef, .undef, .undef, .undef, .undef, .undef, .undef, .undef, .undef, .undef, .undef, .undef, .undef, .undef, .undef]) (fun s H' => l101_0_0 n s = some r ∧ SameH H H') (fun s => s) ⟨n, (by repeat' first | exact Wk.nil | apply Wk.u | apply Wk.r), ⟨hg, (rfl : SameH _ _)⟩⟩ ?_
 rintro k1 H2 ⟨hg, hH9⟩ _
 unfold SameH at hH9
 subst hH9
 try dsimp only at hg
 cases k1 with
 | zero => simp only [l101_0_0, reduceCtorEq] at hg
 | succ k1 =>
  rw [l101_0_0] at hg
  refine eawp_sound noY_sound _ _ _ _ ?_
  simp only [EVA, reduceIte, reduceCtorEq, Nat.reduceLT, Nat.reduceLeDiff, Int.reduceEq, Int.reduceLT, Int.reduceLE, Nat.reduceMul, rs101_0, (show IntKind.i64.wrap 1 = 1 from rfl)]
  exact hK
end Go.Av
end
