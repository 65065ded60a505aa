/- the walks, part 11 -/
import Derived.Test.YtcgndadlcgnilaaGreatA28
import Derived.Test.YtcgndadlcgnilaaGreatW7
set_option autoImplicit false
set_option linter.unusedSimpArgs false
set_option linter.unusedVariables false
set_option linter.unnecessarySimpa false
section
set_option maxHeartbeats 1000000
set_option maxRecDepth 10000
namespace Go.Av
open Go.Proofs
/-- skymosaic/skymosaiclaw38.real -/
theorem rs21 : Tryz.f21.results.toList = [.cell 2 33] := rfl
def g21 (n : Nat) (a0 : S8) : Option (S8) := some (⟨a0.c0, a0.c1, a0.c2, a0.c3, a0.c4, a0.c5, a0.c6⟩ : S8)
theorem c21 (B : Nat) (w0 : World) (n : Nat) (a0 : S8) (H : AHeap) (K : AV → AHeap → Prop) (r : (S8)) (hg : g21 n a0 = some r)  (hK : ∀ (H' : AHeap), Ext H H' → K (.agg [.int .i64 r.c0, .int .i64 r.c1, .dl 1 (List.map (AV.int .i64) r.c2) .none, .dl 1 (List.map (AV.int .i64) r.c3) .none, .dl 1 (List.map (AV.int .u64) r.c4) .none, .dl 1 (List.map (AV.int .u64) r.c5) .none, .dl 1 (List.map (AV.int .u64) r.c6) .none]) H') : ACall Tryz.prog B w0 21 [.agg [.int .i64 a0.c0, .int .i64 a0.c1, .dl 1 (List.map (AV.int .i64) a0.c2) .none, .dl 1 (List.map (AV.int .i64) a0.c3) .none, .dl 1 (List.map (AV.int .u64) a0.c4) .none, .dl 1 (List.map (AV.int .u64) a0.c5) .none, .dl 1 (List.map (AV.int .u64) a0.c6) .none]] H K := by
 refine ACall.wkR ?_
 unfold g21 at hg
 refine ACall.enter Tryz.func21 (by kernel_rfl) rfl (eawp_sound noY_sound _ _ _ _ ?_)
 have hE : Ext H H := Ext.refl H
 simp only [EVA, reduceIte, reduceCtorEq, Nat.reduceLT, Nat.reduceLeDiff, Int.reduceEq, Int.reduceLT, Int.reduceLE, Nat.reduceMul, Tryz.ntmps21, rs21]
 refine eop_box_go (H0 := H) (v := .agg [.int .i64 a0.c0, .int .i64 a0.c1, .dl 1 (List.map (AV.int .i64) a0.c2) .none, .dl 1 (List.map (AV.int .i64) a0.c3) .none, .dl 1 (List.map (AV.int .u64) a0.c4) .none, .dl 1 (List.map (AV.int .u64) a0.c5) .none, .dl 1 (List.map (AV.int .u64) a0.c6) .none]) rfl rfl hE ?_
 intro o1 H2 hE xo1 g_o1 f_o1 n_o1
 have f_o1 : H2[o1]? = some (.cells ([.int .i64 a0.c0, .int .i64 a0.c1, .dl 1 (List.map (AV.int .i64) a0.c2) .none, .dl 1 (List.map (AV.int .i64) a0.c3) .none, .dl 1 (List.map (AV.int .u64) a0.c4) .none, .dl 1 (List.map (AV.int .u64) a0.c5) .none, .dl 1 (List.map (AV.int .u64) a0.c6) .none])) := f_o1
 simp only [EVA, reduceIte, reduceCtorEq, Nat.reduceLT, Nat.reduceLeDiff, Int.reduceEq, Int.reduceLT, Int.reduceLE, Nat.reduceMul, f_o1]
 refine eop_alloc_go (H0 := H) ty33 rfl rfl hE ?_
 intro o3 H4 hE xo3 g_o3 f_o3 n_o3
 have ne_o1_o3 := n_o3 _ _ f_o1
 have f_o1 := xo3.2 _ _ f_o1
 have f_o3 : H4[o3]? = some (.cells ([.int .i64 0, .int .i64 0, .dl 0 [] .full, .dl 0 [] .full, .dl 0 [] .full, .dl 0 [] .full, .dl 0 [] .full])) := f_o3
 simp only [EVA, reduceIte, reduceCtorEq, Nat.reduceLT, Nat.reduceLeDiff, Int.reduceEq, Int.reduceLT, Int.reduceLE, Nat.reduceMul, f_o1, f_o3]
 refine eop_store_go (H0 := H) (id := o3) (off := 0) (v := .agg [.int .i64 a0.c0, .int .i64 a0.c1, .dl 1 (List.map (AV.int .i64) a0.c2) .none, .dl 1 (List.map (AV.int .i64) a0.c3) .none, .dl 1 (List.map (AV.int .u64) a0.c4) .none, .dl 1 (List.map (AV.int .u64) a0.c5) .none, .dl 1 (List.map (AV.int .u64) a0.c6) .none]) rfl rfl f_o3 ty33 rfl rfl (Nat.le_of_ble_eq_true rfl) hE g_o3 ?_
 intro H5 hE f9_o3 p6 l9
 have f_o1 := p6 _ _ ne_o1_o3 f_o1
 have f_o3 : H5[o3]? = some (.cells ([.int .i64 a0.c0, .int .i64 a0.c1, .dl 1 (List.map (AV.int .i64) a0.c2) .none, .dl 1 (List.map (AV.int .i64) a0.c3) .none, .dl 1 (List.map (AV.int .u64) a0.c4) .none, .dl 1 (List.map (AV.int .u64) a0.c5) .none, .dl 1 (List.map (AV.int .u64) a0.c6) .none])) := f9_o3
 simp only [EVA, reduceIte, reduceCtorEq, Nat.reduceLT, Nat.reduceLeDiff, Int.reduceEq, Int.reduceLT, Int.reduceLE, Nat.reduceMul, rs21, f_o1, f_o3]
 obtain rfl := Option.some.inj hg
 exact ⟨_, (wkR.a (wkA.agg (by repeat' first | exact Wk.nil | apply Wk.u | apply Wk.r))), (hK  _ hE )⟩
/-- skymosaic/skymosaicref38.Check -/
def l22_1 (n : Nat) (a0 : S8) (a1 : List (List S1)) : Nat → Int → Option (Int)
 | 0, _ => none
 | k28 + 1, x27 => if x27 < (a0.c2.length : Int) then (if (0 : Int) ≤ x27 ∧ x27 < (a1.length : Int) then (if (0 : Int) ≤ x27 ∧ x27 < (a0.c6.length : Int) then ((g39 n (rd a1 x27)).bind fun v35 => if v35 = (rd a0.c6 x27) then ((l22_1 n a0 a1 k28) (IntKind.i64.wrap (x27 + 1))) else (some 17)) else none) else none) else ((g40 n a1 a0.c4).bind fun v40 => if v40 = true then (some 17) else (some 0))
def l22_0 (n : Nat) (a0 : S8) (a1 : List (List S1)) : Nat → Int → Option (Int)
 | 0, _ => none
 | k19 + 1, x18 => if x18 < (a0.c4.length : Int) then (if (0 : Int) ≤ x18 ∧ x18 < (a0.c4.length : Int) then (if (0 : Int) ≤ (IntKind.i64.wrap (x18 - 1)) ∧ (IntKind.i64.wrap (x18 - 1)) < (a0.c4.length : Int) then (if (rd a0.c4 x18) ≤ (rd a0.c4 (IntKind.i64.wrap (x18 - 1))) then (some 1) else ((l22_0 n a0 a1 k19) (IntKind.i64.wrap (x18 + 1)))) else none) else none) else (l22_1 n a0 a1 n 0)
theorem rs22 : Tryz.f22.results.toList = [.tmp 4] := rfl
def g22 (n : Nat) (a0 : S8) (a1 : List (List S1)) : Option (Int) := if a0.c0 < 0 then (some 1) else (if 4095 < a0.c0 then (some 1) else (if a0.c1 < 0 then (some 1) else (if 1099511627776 < a0.c1 then (some 1) else (if (a0.c3.length : Int) = (a0.c2.length : Int) then (if (a0.c5.length : Int) = (a0.c2.length : Int) then (if (a0.c6.length : Int) = (a0.c2.length : Int) then (if (a1.length : Int) = (a0.c2.length : Int) then (if 1024 < (a0.c2.length : Int) then (some 1) else ((g36 n a0.c2).bind fun v12 => if v12 = true then ((g36 n a0.c3).bind fun v15 => if v15 = true then (l22_0 n a0 a1 n 1) else (some 1)) else (some 1))) else (some 1)) else (some 1)) else (some 1)) else (some 1)))))
theorem c22 (B : Nat) (w0 : World) (n : Nat) (a0 : S8) (a1 : List (List S1)) (ta1 : Tail) (H : AHeap) (K : AV → AHeap → Prop) (r : (Int)) (hg : g22 n a0 a1 = some r)  (hK : ∀ (H' : AHeap), Ext H H' → K (.int .i64 r) H') : ACall Tryz.prog B w0 22 [.agg [.int .i64 a0.c0, .int .i64 a0.c1, .dl 1 (List.map (AV.int .i64) a0.c2) .none, .dl 1 (List.map (AV.int .i64) a0.c3) .none, .dl 1 (List.map (AV.int .u64) a0.c4) .none, .dl 1 (List.map (AV.int .u64) a0.c5) .none, .dl 1 (List.map (AV.int .u64) a0.c6) .none], .dl 1 (List.map encL3 a1) ta1] H K := by
 unfold g22 at hg
 refine ACall.enter Tryz.func22 (by kernel_rfl) rfl (eawp_sound noY_sound _ _ _ _ ?_)
 have hE : Ext H H := Ext.refl H
 simp only [EVA, reduceIte, reduceCtorEq, Tryz.ntmps22, rs22, (show IntKind.i64.wrap 0 = 0 from rfl), (show IntKind.i64.wrap 2 = 2 from rfl), (show IntKind.i64.wrap 1 = 1 from rfl)]
 refine eop_box_go (H0 := H) (v := .agg [.int .i64 a0.c0, .int .i64 a0.c1, .dl 1 (List.map (AV.int .i64) a0.c2) .none, .dl 1 (List.map (AV.int .i64) a0.c3) .none, .dl 1 (List.map (AV.int .u64) a0.c4) .none, .dl 1 (List.map (AV.int .u64) a0.c5) .none, .dl 1 (List.map (AV.int .u64) a0.c6) .none]) rfl rfl hE ?_
 intro o1 H2 hE xo1 g_o1 f_o1 n_o1
 have f_o1 : H2[o1]? = some (.cells ([.int .i64 a0.c0, .int .i64 a0.c1, .dl 1 (List.map (AV.int .i64) a0.c2) .none, .dl 1 (List.map (AV.int .i64) a0.c3) .none, .dl 1 (List.map (AV.int .u64) a0.c4) .none, .dl 1 (List.map (AV.int .u64) a0.c5) .none, .dl 1 (List.map (AV.int .u64) a0.c6) .none])) := f_o1
 simp only [EVA, reduceIte, reduceCtorEq, f_o1, (show IntKind.i64.wrap 0 = 0 from rfl), (show IntKind.i64.wrap 2 = 2 from rfl), (show IntKind.i64.wrap 1 = 1 from rfl)]
 rcases ite_some hg with ⟨h3, hg⟩ | ⟨h3, hg⟩
 ·refine Br.yes h3 ?_
  simp only [EVA, reduceIte, reduceCtorEq, rs22, eq_true h3, f_o1, (show IntKind.i64.wrap 0 = 0 from rfl), (show IntKind.i64.wrap 2 = 2 from rfl), (show IntKind.i64.wrap 1 = 1 from rfl)]
  obtain rfl := Option.some.inj hg
  exact (hK  _ hE )
 ·refine Br.no h3 ?_
  simp only [EVA, reduceIte, reduceCtorEq, eq_false h3, f_o1, (show IntKind.i64.wrap 0 = 0 from rfl), (show IntKind.i64.wrap 2 = 2 from rfl), (show IntKind.i64.wrap 1 = 1 from rfl)]
  rcases ite_some hg with ⟨h4, hg⟩ | ⟨h4, hg⟩
  ·refine Br.yes h4 ?_
   simp only [EVA, reduceIte, reduceCtorEq, rs22, eq_false h3, eq_true h4, f_o1, (show IntKind.i64.wrap 0 = 0 from rfl), (show IntKind.i64.wrap 2 = 2 from rfl), (show IntKind.i64.wrap 1 = 1 from rfl)]
   obtain rfl := Option.some.inj hg
   exact (hK  _ hE )
  ·refine Br.no h4 ?_
   simp only [EVA, reduceIte, reduceCtorEq, eq_false h3, eq_false h4, f_o1, (show IntKind.i64.wrap 0 = 0 from rfl), (show IntKind.i64.wrap 2 = 2 from rfl), (show IntKind.i64.wrap 1 = 1 from rfl)]
   rcases ite_some hg with ⟨h5, hg⟩ | ⟨h5, hg⟩
   ·refine Br.yes h5 ?_
    simp only [EVA, reduceIte, reduceCtorEq, rs22, eq_false h3, eq_false h4, eq_true h5, f_o1, (show IntKind.i64.wrap 0 = 0 from rfl), (show IntKind.i64.wrap 2 = 2 from rfl), (show IntKind.i64.wrap 1 = 1 from rfl)]
    obtain rfl := Option.some.inj hg
    exact (hK  _ hE )
   ·refine Br.no h5 ?_
    simp only [EVA, reduceIte, reduceCtorEq, eq_false h3, eq_false h4, eq_false h5, f_o1, (show IntKind.i64.wrap 0 = 0 from rfl), (show IntKind.i64.wrap 2 = 2 from rfl), (show IntKind.i64.wrap 1 = 1 from rfl)]
    rcases ite_some hg with ⟨h6, hg⟩ | ⟨h6, hg⟩
    ·refine Br.yes h6 ?_
     simp only [EVA, reduceIte, reduceCtorEq, rs22, eq_false h3, eq_false h4, eq_false h5, eq_true h6, f_o1, (show IntKind.i64.wrap 0 = 0 from rfl), (show IntKind.i64.wrap 2 = 2 from rfl), (show IntKind.i64.wrap 1 = 1 from rfl)]
     obtain rfl := Option.some.inj hg
     exact (hK  _ hE )
    ·refine Br.no h6 ?_
     simp only [EVA, reduceIte, reduceCtorEq, eq_false h3, eq_false h4, eq_false h5, eq_false h6, f_o1, (show IntKind.i64.wrap 0 = 0 from rfl), (show IntKind.i64.wrap 2 = 2 from rfl), (show IntKind.i64.wrap 1 = 1 from rfl)]
     rcases ite_some hg with ⟨h7, hg⟩ | ⟨h7, hg⟩
     ·refine Br.yes h7 ?_
      simp only [EVA, reduceIte, reduceCtorEq, eq_false h3, eq_false h4, eq_false h5, eq_false h6, eq_true h7, f_o1, (show IntKind.i64.wrap 0 = 0 from rfl), (show IntKind.i64.wrap 2 = 2 from rfl), (show IntKind.i64.wrap 1 = 1 from rfl)]
      rcases ite_some hg with ⟨h8, hg⟩ | ⟨h8, hg⟩
      ·refine Br.yes h8 ?_
       simp only [EVA, reduceIte, reduceCtorEq, eq_false h3, eq_false h4, eq_false h5, eq_false h6, eq_true h7, eq_true h8, f_o1, (show IntKind.i64.wrap 0 = 0 from rfl), (show IntKind.i64.wrap 2 = 2 from rfl), (show IntKind.i64.wrap 1 = 1 from rfl)]
       rcases ite_some hg with ⟨h9, hg⟩ | ⟨h9, hg⟩
       ·refine Br.yes h9 ?_
        simp only [EVA, reduceIte, reduceCtorEq, eq_false h3, eq_false h4, eq_false h5, eq_false h6, eq_true h7, eq_true h8, eq_true h9, f_o1, (show IntKind.i64.wrap 0 = 0 from rfl), (show IntKind.i64.wrap 2 = 2 from rfl), (show IntKind.i64.wrap 1 = 1 from rfl)]
        rcases ite_some hg with ⟨h10, hg⟩ | ⟨h10, hg⟩
        ·refine Br.yes h10 ?_
         simp only [EVA, reduceIte, reduceCtorEq, eq_false h3, eq_false h4, eq_false h5, eq_false h6, eq_true h7, eq_true h8, eq_true h9, eq_true h10, f_o1, (show IntKind.i64.wrap 0 = 0 from rfl), (show IntKind.i64.wrap 2 = 2 from rfl), (show IntKind.i64.wrap 1 = 1 from rfl)]
         rcases ite_some hg with ⟨h11, hg⟩ | ⟨h11, hg⟩
         ·refine Br.yes h11 ?_
          simp only [EVA, reduceIte, reduceCtorEq, rs22, eq_false h3, eq_false h4, eq_false h5, eq_false h6, eq_true h7, eq_true h8, eq_true h9, eq_true h10, eq_true h11, f_o1, (show IntKind.i64.wrap 0 = 0 from rfl), (show IntKind.i64.wrap 2 = 2 from rfl), (show IntKind.i64.wrap 1 = 1 from rfl)]
          obtain rfl := Option.some.inj hg
          exact (hK  _ hE )
         ·refine Br.no h11 ?_
          simp only [EVA, reduceIte, reduceCtorEq, eq_false h3, eq_false h4, eq_false h5, eq_false h6, eq_true h7, eq_true h8, eq_true h9, eq_true h10, eq_false h11, f_o1, (show IntKind.i64.wrap 0 = 0 from rfl), (show IntKind.i64.wrap 2 = 2 from rfl), (show IntKind.i64.wrap 1 = 1 from rfl)]
          obtain ⟨v12, ch13, hg⟩ := bind_some hg
          refine ACall.wkA (args := [.dl 1 (List.map (AV.int .i64) a0.c2) .none]) (c36 B w0 n a0.c2 .none _ _ v12 ch13  ?_) (WkA.r WkA.nil)
          rcases ite_some hg with ⟨h14, hg⟩ | ⟨h14, hg⟩
          ·simp only [EVA, reduceIte, reduceCtorEq, eq_false h3, eq_false h4, eq_false h5, eq_false h6, eq_true h7, eq_true h8, eq_true h9, eq_true h10, eq_false h11, h14, f_o1, (show IntKind.i64.wrap 0 = 0 from rfl), (show IntKind.i64.wrap 2 = 2 from rfl), (show IntKind.i64.wrap 1 = 1 from rfl)]
           obtain ⟨v15, ch16, hg⟩ := bind_some hg
           refine ACall.wkA (args := [.dl 1 (List.map (AV.int .i64) a0.c3) .none]) (c36 B w0 n a0.c3 .none _ _ v15 ch16  ?_) (WkA.r WkA.nil)
           rcases ite_some hg with ⟨h17, hg⟩ | ⟨h17, hg⟩
           ·simp only [EVA, reduceIte, reduceCtorEq, eq_false h3, eq_false h4, eq_false h5, eq_false h6, eq_true h7, eq_true h8, eq_true h9, eq_true h10, eq_false h11, h14, h17, f_o1, (show IntKind.i64.wrap 0 = 0 from rfl), (show IntKind.i64.wrap 2 = 2 from rfl), (show IntKind.i64.wrap 1 = 1 from rfl)]
            refine AWP.loop (σ := Nat × Int) (fun s => [.undef, .dl 1 (List.map encL3 a1) ta1, .ptr o1 0, .undef, .undef, .int .i64 (a0.c2.length : Int), .int .i64 s.2, .undef, .undef, .undef, .undef, .undef, .undef, .undef, .undef, .undef, .undef, .undef, .undef, .undef, .undef, .undef, .undef, .undef, .undef, .undef, .undef, .undef, .undef, .undef, .undef, .undef, .undef, .undef, .undef, .undef, .undef, .undef, .undef, .undef, .undef, .undef, .undef, .undef, .undef, .undef, .undef, .undef, .undef, .undef, .undef, .undef, .undef, .undef, .undef, .undef, .undef, .undef, .undef, .undef, .undef, .undef, .undef, .undef, .undef, .undef, .undef, .undef, .undef, .undef, .undef, .undef, .undef, .undef, .undef, .undef, .undef, .undef, .undef, .undef, .undef, .undef, .undef, .undef, .undef, .undef, .undef, .undef, .undef, .undef, .undef, .undef, .undef, .undef, .undef, .undef, .undef, .undef, .undef, .undef, .undef, .undef, .undef, .undef, .undef, .undef, .undef, .undef, .undef, .undef, .undef]) (fun s H' => l22_0 n a0 a1 s.1 s.2 = some r ∧ SameH H2 H') (fun s => s.1) ⟨⟨n, 1⟩, (by repeat' first | exact Wk.nil | apply Wk.u | apply Wk.r), ⟨hg, (rfl : SameH _ _)⟩⟩ ?_
            rintro ⟨k19, x18⟩ H20 ⟨hg, hH9⟩ _
            unfold SameH at hH9
            subst hH9
            try dsimp only at hg
            cases k19 with
            | zero => simp only [l22_0, reduceCtorEq] at hg
            | succ k19 =>
             rw [l22_0] at hg
             refine eawp_sound noY_sound _ _ _ _ ?_
             simp only [EVA, reduceIte, reduceCtorEq, eq_false h3, eq_false h4, eq_false h5, eq_false h6, eq_true h7, eq_true h8, eq_true h9, eq_true h10, eq_false h11, h14, h17, f_o1, (show IntKind.i64.wrap 0 = 0 from rfl), (show IntKind.i64.wrap 2 = 2 from rfl), (show IntKind.i64.wrap 1 = 1 from rfl)]
             rcases ite_some hg with ⟨h21, hg⟩ | ⟨h21, hg⟩
             ·refine Br.yes h21 ?_
              simp only [EVA, reduceIte, reduceCtorEq, eq_false h3, eq_false h4, eq_false h5, eq_false h6, eq_true h7, eq_true h8, eq_true h9, eq_true h10, eq_false h11, h14, h17, eq_true h21, f_o1, (show IntKind.i64.wrap 0 = 0 from rfl), (show IntKind.i64.wrap 2 = 2 from rfl), (show IntKind.i64.wrap 1 = 1 from rfl)]
              refine AWP.draw noY_sound [[], [0], [], [0, 1, 2], [0, 1, 2, 3], [], [5], [], [7], [5, 6, 7, 8], [5, 6, 7, 8, 9], [0, 1, 2, 3, 4, 5, 6, 7, 8, 9, 10]] [⟨0, false, []⟩, ⟨1, false, []⟩, ⟨2, false, []⟩, ⟨3, false, []⟩, ⟨4, false, []⟩, ⟨5, false, []⟩, ⟨6, false, []⟩, ⟨7, false, []⟩, ⟨8, false, []⟩, ⟨9, false, []⟩, ⟨10, false, []⟩, ⟨11, false, []⟩] [0, 1, 2, 3, 4, 5, 6, 7, 8, 9, 10, 11] [0, 1, 2, 3, 4, 5, 6, 7, 8, 9, 10, 11] (by kernel_rfl) ?_
              obtain ⟨h22, hg⟩ := guard_some hg
              have q23 : List.getD (List.map (AV.int .u64) a0.c4) (Int.toNat x18) AV.undef = (AV.int .u64) (rd a0.c4 x18) := rd_map (l := a0.c4) (i := x18) (AV.int .u64) h22
              obtain ⟨h24, hg⟩ := guard_some hg
              have q25 : List.getD (List.map (AV.int .u64) a0.c4) (Int.toNat (IntKind.i64.wrap (x18 - 1))) AV.undef = (AV.int .u64) (rd a0.c4 (IntKind.i64.wrap (x18 - 1))) := rd_map (l := a0.c4) (i := (IntKind.i64.wrap (x18 - 1))) (AV.int .u64) h24
              simp only [EVA, reduceIte, reduceCtorEq, eq_false h3, eq_false h4, eq_false h5, eq_false h6, eq_true h7, eq_true h8, eq_true h9, eq_true h10, eq_false h11, h14, h17, eq_true h21, eq_true h22.1, eq_true h22.2, q23, eq_true h24.1, eq_true h24.2, q25, f_o1, (show IntKind.i64.wrap 0 = 0 from rfl), (show IntKind.i64.wrap 2 = 2 from rfl), (show IntKind.i64.wrap 1 = 1 from rfl)]
              rcases ite_some hg with ⟨h26, hg⟩ | ⟨h26, hg⟩
              ·refine Br.yes h26 ?_
               simp only [EVA, reduceIte, reduceCtorEq, rs22, eq_false h3, eq_false h4, eq_false h5, eq_false h6, eq_true h7, eq_true h8, eq_true h9, eq_true h10, eq_false h11, h14, h17, eq_true h21, eq_true h22.1, eq_true h22.2, q23, eq_true h24.1, eq_true h24.2, q25, eq_true h26, f_o1, (show IntKind.i64.wrap 0 = 0 from rfl), (show IntKind.i64.wrap 2 = 2 from rfl), (show IntKind.i64.wrap 1 = 1 from rfl)]
               obtain rfl := Option.some.inj hg
               exact (hK  _ hE )
              ·refine Br.no h26 ?_
               simp only [EVA, reduceIte, reduceCtorEq, eq_false h3, eq_false h4, eq_false h5, eq_false h6, eq_true h7, eq_true h8, eq_true h9, eq_true h10, eq_false h11, h14, h17, eq_true h21, eq_true h22.1, eq_true h22.2, q23, eq_true h24.1, eq_true h24.2, q25, eq_false h26, f_o1, (show IntKind.i64.wrap 0 = 0 from rfl), (show IntKind.i64.wrap 2 = 2 from rfl), (show IntKind.i64.wrap 1 = 1 from rfl)]
               exact ⟨⟨k19, IntKind.i64.wrap (x18 + 1)⟩, (by repeat' first | exact Wk.nil | apply Wk.u | apply Wk.r), ⟨hg, (rfl : SameH _ _)⟩, Nat.lt_succ_self _⟩
             ·refine Br.no h21 ?_
              simp only [EVA, reduceIte, reduceCtorEq, eq_false h3, eq_false h4, eq_false h5, eq_false h6, eq_true h7, eq_true h8, eq_true h9, eq_true h10, eq_false h11, h14, h17, eq_false h21, f_o1, (show IntKind.i64.wrap 0 = 0 from rfl), (show IntKind.i64.wrap 2 = 2 from rfl), (show IntKind.i64.wrap 1 = 1 from rfl)]
              refine AWP.loop (σ := Nat × Int) (fun s => [.undef, .dl 1 (List.map encL3 a1) ta1, .ptr o1 0, .undef, .undef, .int .i64 (a0.c2.length : Int), .undef, .int .i64 s.2, .undef, .undef, .undef, .undef, .undef, .undef, .undef, .undef, .undef, .undef, .undef, .undef, .undef, .undef, .undef, .undef, .undef, .undef, .undef, .undef, .undef, .undef, .undef, .undef, .undef, .undef, .undef, .undef, .undef, .undef, .undef, .undef, .undef, .undef, .undef, .undef, .undef, .undef, .undef, .undef, .undef, .undef, .undef, .undef, .undef, .undef, .undef, .undef, .undef, .undef, .undef, .undef, .undef, .undef, .undef, .undef, .undef, .undef, .undef, .undef, .undef, .undef, .undef, .undef, .undef, .undef, .undef, .undef, .undef, .undef, .undef, .undef, .undef, .undef, .undef, .undef, .undef, .undef, .undef, .undef, .undef, .undef, .undef, .undef, .undef, .undef, .undef, .undef, .undef, .undef, .undef, .undef, .undef, .undef, .undef, .undef, .undef, .undef, .undef, .undef, .undef, .undef, .undef]) (fun s H' => l22_1 n a0 a1 s.1 s.2 = some r ∧ Ext H H' ∧ ObjAt H' o1 ([.int .i64 a0.c0, .int .i64 a0.c1, .dl 1 (List.map (AV.int .i64) a0.c2) .none, .dl 1 (List.map (AV.int .i64) a0.c3) .none, .dl 1 (List.map (AV.int .u64) a0.c4) .none, .dl 1 (List.map (AV.int .u64) a0.c5) .none, .dl 1 (List.map (AV.int .u64) a0.c6) .none])) (fun s => s.1) ⟨⟨n, 0⟩, (by repeat' first | exact Wk.nil | apply Wk.u | apply Wk.r), ⟨hg, hE, f_o1⟩⟩ ?_
              rintro ⟨k28, x27⟩ H29 ⟨hg, hE, f9_o1⟩ _
              have f_o1 : H29[o1]? = some (.cells ([.int .i64 a0.c0, .int .i64 a0.c1, .dl 1 (List.map (AV.int .i64) a0.c2) .none, .dl 1 (List.map (AV.int .i64) a0.c3) .none, .dl 1 (List.map (AV.int .u64) a0.c4) .none, .dl 1 (List.map (AV.int .u64) a0.c5) .none, .dl 1 (List.map (AV.int .u64) a0.c6) .none])) := f9_o1
              clear f9_o1
              try dsimp only at hg
              cases k28 with
              | zero => simp only [l22_1, reduceCtorEq] at hg
              | succ k28 =>
               rw [l22_1] at hg
               refine eawp_sound noY_sound _ _ _ _ ?_
               simp only [EVA, reduceIte, reduceCtorEq, eq_false h3, eq_false h4, eq_false h5, eq_false h6, eq_true h7, eq_true h8, eq_true h9, eq_true h10, eq_false h11, h14, h17, eq_false h21, f_o1, (show IntKind.i64.wrap 0 = 0 from rfl), (show IntKind.i64.wrap 2 = 2 from rfl), (show IntKind.i64.wrap 1 = 1 from rfl)]
               rcases ite_some hg with ⟨h30, hg⟩ | ⟨h30, hg⟩
               ·refine Br.yes h30 ?_
                simp only [EVA, reduceIte, reduceCtorEq, eq_false h3, eq_false h4, eq_false h5, eq_false h6, eq_true h7, eq_true h8, eq_true h9, eq_true h10, eq_false h11, h14, h17, eq_false h21, eq_true h30, f_o1, (show IntKind.i64.wrap 0 = 0 from rfl), (show IntKind.i64.wrap 2 = 2 from rfl), (show IntKind.i64.wrap 1 = 1 from rfl)]
                refine AWP.draw noY_sound [[], [], [0, 1], [0, 1, 2], [0, 1, 2, 3], [], [5], [], [5, 6, 7], [5, 6, 7, 8], [0, 1, 2, 3, 4, 5, 6, 7, 8, 9]] [⟨0, false, []⟩, ⟨1, false, []⟩, ⟨2, false, []⟩, ⟨3, false, []⟩, ⟨5, false, []⟩, ⟨6, false, []⟩, ⟨7, false, []⟩, ⟨8, false, []⟩, ⟨9, false, []⟩, ⟨4, true, [6, 9]⟩, ⟨10, false, []⟩] [0, 1, 2, 3, 4, 5, 6, 7, 8, 9, 10] [0, 1, 2, 3, 4, 5, 6, 7, 8, 9, 10] (by kernel_rfl) ?_
                obtain ⟨h31, hg⟩ := guard_some hg
                have q32 : List.getD (List.map encL3 a1) (Int.toNat x27) AV.undef = encL3 (rd a1 x27) := rd_map (l := a1) (i := x27) encL3 h31
                obtain ⟨h33, hg⟩ := guard_some hg
                have q34 : List.getD (List.map (AV.int .u64) a0.c6) (Int.toNat x27) AV.undef = (AV.int .u64) (rd a0.c6 x27) := rd_map (l := a0.c6) (i := x27) (AV.int .u64) h33
                simp only [EVA, reduceIte, reduceCtorEq, eq_false h3, eq_false h4, eq_false h5, eq_false h6, eq_true h7, eq_true h8, eq_true h9, eq_true h10, eq_false h11, h14, h17, eq_false h21, eq_true h30, eq_true h31.1, eq_true h31.2, q32, eq_true h33.1, eq_true h33.2, q34, f_o1, (show IntKind.i64.wrap 0 = 0 from rfl), (show IntKind.i64.wrap 2 = 2 from rfl), (show IntKind.i64.wrap 1 = 1 from rfl)]
                obtain ⟨v35, ch36, hg⟩ := bind_some hg
                refine ACall.wkA (args := [.dl 7 (List.map encS1 (rd a1 x27)) .none]) (c39 B w0 n (rd a1 x27) .none _ _ v35 ch36  ?_) (WkA.r WkA.nil)
                intro H37 x38
                have f_o1 := x38.2 _ _ f_o1
                have hE := hE.trans x38
                simp only [EVA, reduceIte, reduceCtorEq, eq_false h3, eq_false h4, eq_false h5, eq_false h6, eq_true h7, eq_true h8, eq_true h9, eq_true h10, eq_false h11, h14, h17, eq_false h21, eq_true h30, eq_true h31.1, eq_true h31.2, q32, eq_true h33.1, eq_true h33.2, q34, f_o1, (show IntKind.i64.wrap 0 = 0 from rfl), (show IntKind.i64.wrap 2 = 2 from rfl), (show IntKind.i64.wrap 1 = 1 from rfl)]
                rcases ite_some hg with ⟨h39, hg⟩ | ⟨h39, hg⟩
                ·refine Br.yes h39 ?_
                 simp only [EVA, reduceIte, reduceCtorEq, eq_false h3, eq_false h4, eq_false h5, eq_false h6, eq_true h7, eq_true h8, eq_true h9, eq_true h10, eq_false h11, h14, h17, eq_false h21, eq_true h30, eq_true h31.1, eq_true h31.2, q32, eq_true h33.1, eq_true h33.2, q34, eq_true h39, f_o1, (show IntKind.i64.wrap 0 = 0 from rfl), (show IntKind.i64.wrap 2 = 2 from rfl), (show IntKind.i64.wrap 1 = 1 from rfl)]
                 exact ⟨⟨k28, IntKind.i64.wrap (x27 + 1)⟩, (by repeat' first | exact Wk.nil | apply Wk.u | apply Wk.r), ⟨hg, hE, f_o1⟩, Nat.lt_succ_self _⟩
                ·refine Br.no h39 ?_
                 simp only [EVA, reduceIte, reduceCtorEq, rs22, eq_false h3, eq_false h4, eq_false h5, eq_false h6, eq_true h7, eq_true h8, eq_true h9, eq_true h10, eq_false h11, h14, h17, eq_false h21, eq_true h30, eq_true h31.1, eq_true h31.2, q32, eq_true h33.1, eq_true h33.2, q34, eq_false h39, f_o1, (show IntKind.i64.wrap 0 = 0 from rfl), (show IntKind.i64.wrap 2 = 2 from rfl), (show IntKind.i64.wrap 1 = 1 from rfl)]
                 obtain rfl := Option.some.inj hg
                 exact (hK  _ hE )
               ·refine Br.no h30 ?_
                simp only [EVA, reduceIte, reduceCtorEq, eq_false h3, eq_false h4, eq_false h5, eq_false h6, eq_true h7, eq_true h8, eq_true h9, eq_true h10, eq_false h11, h14, h17, eq_false h21, eq_false h30, f_o1, (show IntKind.i64.wrap 0 = 0 from rfl), (show IntKind.i64.wrap 2 = 2 from rfl), (show IntKind.i64.wrap 1 = 1 from rfl)]
                obtain ⟨v40, ch41, hg⟩ := bind_some hg
                refine ACall.wkA (args := [.dl 1 (List.map encL3 a1) ta1, .dl 1 (List.map (AV.int .u64) a0.c4) .none]) (c40 B w0 n a1 a0.c4 ta1 .none _ _ v40 ch41  ?_) (WkA.r (WkA.r WkA.nil))
                intro H42 x43
                have f_o1 := x43.2 _ _ f_o1
                have hE := hE.trans x43
                rcases ite_some hg with ⟨h44, hg⟩ | ⟨h44, hg⟩
                ·simp only [EVA, reduceIte, reduceCtorEq, rs22, eq_false h3, eq_false h4, eq_false h5, eq_false h6, eq_true h7, eq_true h8, eq_true h9, eq_true h10, eq_false h11, h14, h17, eq_false h21, eq_false h30, h44, f_o1, (show IntKind.i64.wrap 0 = 0 from rfl), (show IntKind.i64.wrap 2 = 2 from rfl), (show IntKind.i64.wrap 1 = 1 from rfl)]
                 obtain rfl := Option.some.inj hg
                 exact (hK  _ hE )
                ·have h44 := Bool.eq_false_iff.2 h44
                 simp only [EVA, reduceIte, reduceCtorEq, rs22, eq_false h3, eq_false h4, eq_false h5, eq_false h6, eq_true h7, eq_true h8, eq_true h9, eq_true h10, eq_false h11, h14, h17, eq_false h21, eq_false h30, h44, f_o1, (show IntKind.i64.wrap 0 = 0 from rfl), (show IntKind.i64.wrap 2 = 2 from rfl), (show IntKind.i64.wrap 1 = 1 from rfl)]
                 obtain rfl := Option.some.inj hg
                 exact (hK  _ hE )
           ·have h17 := Bool.eq_false_iff.2 h17
            simp only [EVA, reduceIte, reduceCtorEq, rs22, eq_false h3, eq_false h4, eq_false h5, eq_false h6, eq_true h7, eq_true h8, eq_true h9, eq_true h10, eq_false h11, h14, h17, f_o1, (show IntKind.i64.wrap 0 = 0 from rfl), (show IntKind.i64.wrap 2 = 2 from rfl), (show IntKind.i64.wrap 1 = 1 from rfl)]
            obtain rfl := Option.some.inj hg
            exact (hK  _ hE )
          ·have h14 := Bool.eq_false_iff.2 h14
           simp only [EVA, reduceIte, reduceCtorEq, rs22, eq_false h3, eq_false h4, eq_false h5, eq_false h6, eq_true h7, eq_true h8, eq_true h9, eq_true h10, eq_false h11, h14, f_o1, (show IntKind.i64.wrap 0 = 0 from rfl), (show IntKind.i64.wrap 2 = 2 from rfl), (show IntKind.i64.wrap 1 = 1 from rfl)]
           obtain rfl := Option.some.inj hg
           exact (hK  _ hE )
        ·refine Br.no h10 ?_
         simp only [EVA, reduceIte, reduceCtorEq, rs22, eq_false h3, eq_false h4, eq_false h5, eq_false h6, eq_true h7, eq_true h8, eq_true h9, eq_false h10, f_o1, (show IntKind.i64.wrap 0 = 0 from rfl), (show IntKind.i64.wrap 2 = 2 from rfl), (show IntKind.i64.wrap 1 = 1 from rfl)]
         obtain rfl := Option.some.inj hg
         exact (hK  _ hE )
       ·refine Br.no h9 ?_
        simp only [EVA, reduceIte, reduceCtorEq, rs22, eq_false h3, eq_false h4, eq_false h5, eq_false h6, eq_true h7, eq_true h8, eq_false h9, f_o1, (show IntKind.i64.wrap 0 = 0 from rfl), (show IntKind.i64.wrap 2 = 2 from rfl), (show IntKind.i64.wrap 1 = 1 from rfl)]
        obtain rfl := Option.some.inj hg
        exact (hK  _ hE )
      ·refine Br.no h8 ?_
       simp only [EVA, reduceIte, reduceCtorEq, rs22, eq_false h3, eq_false h4, eq_false h5, eq_false h6, eq_true h7, eq_false h8, f_o1, (show IntKind.i64.wrap 0 = 0 from rfl), (show IntKind.i64.wrap 2 = 2 from rfl), (show IntKind.i64.wrap 1 = 1 from rfl)]
       obtain rfl := Option.some.inj hg
       exact (hK  _ hE )
     ·refine Br.no h7 ?_
      simp only [EVA, reduceIte, reduceCtorEq, rs22, eq_false h3, eq_false h4, eq_false h5, eq_false h6, eq_false h7, f_o1, (show IntKind.i64.wrap 0 = 0 from rfl), (show IntKind.i64.wrap 2 = 2 from rfl), (show IntKind.i64.wrap 1 = 1 from rfl)]
      obtain rfl := Option.some.inj hg
      exact (hK  _ hE )
end Go.Av
end
