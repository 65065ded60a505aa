/- the walks, part 9 -/
import Derived.Test.YtcgndadlcgnilaaGreatA28
import Derived.Test.YtcgndadlcgnilaaGreatW2
import Derived.Test.YtcgndadlcgnilaaGreatW3
import Derived.Test.YtcgndadlcgnilaaGreatW4
import Derived.Test.YtcgndadlcgnilaaGreatW5
import Derived.Test.YtcgndadlcgnilaaGreatW6
import Derived.Test.YtcgndadlcgnilaaGreatW8
set_option autoImplicit false
set_option linter.unusedSimpArgs false
set_option linter.unusedVariables false
set_option linter.unnecessarySimpa false
section
set_option maxHeartbeats 1000000
set_option maxRecDepth 10000
namespace Go.Av
open Go.Proofs
/-- skymosaic/withdraw.rising[uint64] -/
theorem rs44 : Tryz.f44.results.toList = [.tmp 2] := rfl
def g44 (n : Nat) (a0 : List Int) : Option (Bool) := (g33 n a0).bind fun v1 => (g76 n v1 a0).bind fun v5 => some v5
theorem c44 (B : Nat) (w0 : World) (n : Nat) (a0 : List Int) (ta0 : Tail) (H : AHeap) (K : AV → AHeap → Prop) (r : (Bool)) (hg : g44 n a0 = some r)  (hK : ∀ (H' : AHeap), Ext H H' → K (.bool r) H') : ACall Tryz.prog B w0 44 [.dl 1 (List.map (AV.int .u64) a0) ta0] H K := by
 unfold g44 at hg
 refine ACall.enter Tryz.func44 (by kernel_rfl) rfl (eawp_sound noY_sound _ _ _ _ ?_)
 have hE : Ext H H := Ext.refl H
 simp only [EVA, reduceIte, reduceCtorEq, Tryz.ntmps44, rs44]
 obtain ⟨v1, ch2, hg⟩ := bind_some hg
 refine ACall.wkA (args := [.dl 1 (List.map (AV.int .u64) a0) ta0]) (c33 B w0 n a0 ta0 _ _ v1 ch2  ?_) (WkA.r WkA.nil)
 intro H3 x4
 have hE := hE.trans x4
 simp only [EVA, reduceIte, reduceCtorEq]
 obtain ⟨v5, ch6, hg⟩ := bind_some hg
 refine ACall.wkA (args := [.dl 1 (List.map (AV.int .u64) v1) .none, .dl 1 (List.map (AV.int .u64) a0) ta0]) (c76 B w0 n v1 a0 .none ta0 _ _ v5 ch6  ?_) (WkA.r (WkA.r WkA.nil))
 simp only [EVA, reduceIte, reduceCtorEq, rs44]
 obtain rfl := Option.some.inj hg
 exact (hK  _ hE )
/-- skymosaic/withdraw.Check -/
def l20_0 (n : Nat) (a0 : S8) (a1 : List (List S1)) : Nat → Int → Option (Int)
 | 0, _ => none
 | k27 + 1, x26 => if x26 < (a1.length : Int) then (if (0 : Int) ≤ x26 ∧ x26 < (a1.length : Int) then (if (0 : Int) ≤ x26 ∧ x26 < (a0.c6.length : Int) then ((g23 n (rd a1 x26)).bind fun v34 => if v34 = (rd a0.c6 x26) then ((l20_0 n a0 a1 k27) (IntKind.i64.wrap (x26 + 1))) else (some 17)) else none) else none) else ((g35 n a1 a0.c4).bind fun v39 => if v39 = true then (some 17) else (some 0))
theorem rs20 : Tryz.f20.results.toList = [.tmp 4] := rfl
def g20 (n : Nat) (a0 : S8) (a1 : List (List S1)) : Option (Int) := (g32 n a0.c0 a0.c1).bind fun v3 => if v3 = true then (if (a0.c3.length : Int) = (a0.c2.length : Int) then (if (a0.c5.length : Int) = (a0.c2.length : Int) then (if (a0.c6.length : Int) = (a0.c2.length : Int) then (if (a1.length : Int) = (a0.c2.length : Int) then (if 1024 < (a0.c2.length : Int) then (some 1) else ((g34 n a0.c2).bind fun v11 => if v11 = true then ((g34 n a0.c3).bind fun v16 => if v16 = true then ((g44 n a0.c4).bind fun v21 => if v21 = true then (l20_0 n a0 a1 n 0) else (some 1)) else (some 1)) else (some 1))) else (some 1)) else (some 1)) else (some 1)) else (some 1)) else (some 1)
theorem c20 (B : Nat) (w0 : World) (n : Nat) (a0 : S8) (a1 : List (List S1)) (ta1 : Tail) (H : AHeap) (K : AV → AHeap → Prop) (r : (Int)) (hg : g20 n a0 a1 = some r)  (hK : ∀ (H' : AHeap), Ext H H' → K (.int .i64 r) H') : ACall Tryz.prog B w0 20 [.agg [.int .i64 a0.c0, .int .i64 a0.c1, .dl 1 (List.map (AV.int .i64) a0.c2) .none, .dl 1 (List.map (AV.int .i64) a0.c3) .none, .dl 1 (List.map (AV.int .u64) a0.c4) .none, .dl 1 (List.map (AV.int .u64) a0.c5) .none, .dl 1 (List.map (AV.int .u64) a0.c6) .none], .dl 1 (List.map encL3 a1) ta1] H K := by
 unfold g20 at hg
 refine ACall.enter Tryz.func20 (by kernel_rfl) rfl (eawp_sound noY_sound _ _ _ _ ?_)
 have hE : Ext H H := Ext.refl H
 simp only [EVA, reduceIte, reduceCtorEq, Tryz.ntmps20, rs20, (show IntKind.i64.wrap 1 = 1 from rfl)]
 refine eop_box_go (H0 := H) (v := .agg [.int .i64 a0.c0, .int .i64 a0.c1, .dl 1 (List.map (AV.int .i64) a0.c2) .none, .dl 1 (List.map (AV.int .i64) a0.c3) .none, .dl 1 (List.map (AV.int .u64) a0.c4) .none, .dl 1 (List.map (AV.int .u64) a0.c5) .none, .dl 1 (List.map (AV.int .u64) a0.c6) .none]) rfl rfl hE ?_
 intro o1 H2 hE xo1 g_o1 f_o1 n_o1
 have f_o1 : H2[o1]? = some (.cells ([.int .i64 a0.c0, .int .i64 a0.c1, .dl 1 (List.map (AV.int .i64) a0.c2) .none, .dl 1 (List.map (AV.int .i64) a0.c3) .none, .dl 1 (List.map (AV.int .u64) a0.c4) .none, .dl 1 (List.map (AV.int .u64) a0.c5) .none, .dl 1 (List.map (AV.int .u64) a0.c6) .none])) := f_o1
 simp only [EVA, reduceIte, reduceCtorEq, f_o1, (show IntKind.i64.wrap 1 = 1 from rfl)]
 obtain ⟨v3, ch4, hg⟩ := bind_some hg
 refine ACall.wkA (args := [.int .i64 a0.c0, .int .i64 a0.c1]) (c32 B w0 n a0.c0 a0.c1 _ _ v3 ch4  ?_) (WkA.r (WkA.r WkA.nil))
 rcases ite_some hg with ⟨h5, hg⟩ | ⟨h5, hg⟩
 ·simp only [EVA, reduceIte, reduceCtorEq, h5, f_o1, (show IntKind.i64.wrap 1 = 1 from rfl)]
  rcases ite_some hg with ⟨h6, hg⟩ | ⟨h6, hg⟩
  ·refine Br.yes h6 ?_
   simp only [EVA, reduceIte, reduceCtorEq, h5, eq_true h6, f_o1, (show IntKind.i64.wrap 1 = 1 from rfl)]
   rcases ite_some hg with ⟨h7, hg⟩ | ⟨h7, hg⟩
   ·refine Br.yes h7 ?_
    simp only [EVA, reduceIte, reduceCtorEq, h5, eq_true h6, eq_true h7, f_o1, (show IntKind.i64.wrap 1 = 1 from rfl)]
    rcases ite_some hg with ⟨h8, hg⟩ | ⟨h8, hg⟩
    ·refine Br.yes h8 ?_
     simp only [EVA, reduceIte, reduceCtorEq, h5, eq_true h6, eq_true h7, eq_true h8, f_o1, (show IntKind.i64.wrap 1 = 1 from rfl)]
     rcases ite_some hg with ⟨h9, hg⟩ | ⟨h9, hg⟩
     ·refine Br.yes h9 ?_
      simp only [EVA, reduceIte, reduceCtorEq, h5, eq_true h6, eq_true h7, eq_true h8, eq_true h9, f_o1, (show IntKind.i64.wrap 1 = 1 from rfl)]
      rcases ite_some hg with ⟨h10, hg⟩ | ⟨h10, hg⟩
      ·refine Br.yes h10 ?_
       simp only [EVA, reduceIte, reduceCtorEq, rs20, h5, eq_true h6, eq_true h7, eq_true h8, eq_true h9, eq_true h10, f_o1, (show IntKind.i64.wrap 1 = 1 from rfl)]
       obtain rfl := Option.some.inj hg
       exact (hK  _ hE )
      ·refine Br.no h10 ?_
       simp only [EVA, reduceIte, reduceCtorEq, h5, eq_true h6, eq_true h7, eq_true h8, eq_true h9, eq_false h10, f_o1, (show IntKind.i64.wrap 1 = 1 from rfl)]
       obtain ⟨v11, ch12, hg⟩ := bind_some hg
       refine ACall.wkA (args := [.dl 1 (List.map (AV.int .i64) a0.c2) .none]) (c34 B w0 n a0.c2 .none _ _ v11 ch12  ?_) (WkA.r WkA.nil)
       intro H13 x14
       have f_o1 := x14.2 _ _ f_o1
       have hE := hE.trans x14
       rcases ite_some hg with ⟨h15, hg⟩ | ⟨h15, hg⟩
       ·simp only [EVA, reduceIte, reduceCtorEq, h5, eq_true h6, eq_true h7, eq_true h8, eq_true h9, eq_false h10, h15, f_o1, (show IntKind.i64.wrap 1 = 1 from rfl)]
        obtain ⟨v16, ch17, hg⟩ := bind_some hg
        refine ACall.wkA (args := [.dl 1 (List.map (AV.int .i64) a0.c3) .none]) (c34 B w0 n a0.c3 .none _ _ v16 ch17  ?_) (WkA.r WkA.nil)
        intro H18 x19
        have f_o1 := x19.2 _ _ f_o1
        have hE := hE.trans x19
        rcases ite_some hg with ⟨h20, hg⟩ | ⟨h20, hg⟩
        ·simp only [EVA, reduceIte, reduceCtorEq, h5, eq_true h6, eq_true h7, eq_true h8, eq_true h9, eq_false h10, h15, h20, f_o1, (show IntKind.i64.wrap 1 = 1 from rfl)]
         obtain ⟨v21, ch22, hg⟩ := bind_some hg
         refine ACall.wkA (args := [.dl 1 (List.map (AV.int .u64) a0.c4) .none]) (c44 B w0 n a0.c4 .none _ _ v21 ch22  ?_) (WkA.r WkA.nil)
         intro H23 x24
         have f_o1 := x24.2 _ _ f_o1
         have hE := hE.trans x24
         rcases ite_some hg with ⟨h25, hg⟩ | ⟨h25, hg⟩
         ·simp only [EVA, reduceIte, reduceCtorEq, h5, eq_true h6, eq_true h7, eq_true h8, eq_true h9, eq_false h10, h15, h20, h25, f_o1, (show IntKind.i64.wrap 1 = 1 from rfl)]
          refine AWP.loop (σ := Nat × Int) (fun s => [.undef, .dl 1 (List.map encL3 a1) ta1, .ptr o1 0, .undef, .undef, .undef, .undef, .undef, .undef, .undef, .undef, .undef, .undef, .undef, .undef, .undef, .undef, .undef, .undef, .undef, .undef, .undef, .undef, .undef, .undef, .undef, .undef, .undef, .undef, .undef, .undef, .undef, .undef, .undef, .undef, .undef, .undef, .undef, .undef, .undef, .undef, .undef, .undef, .undef, .undef, .undef, .undef, .undef, .undef, .undef, .undef, .undef, .undef, .undef, .undef, .undef, .undef, .undef, .undef, .undef, .undef, .undef, .undef, .undef, .undef, .undef, .dl 1 (List.map encL3 a1) ta1, .int .i64 (a1.length : Int), .int .i64 s.2, .undef, .undef, .undef, .undef, .undef, .undef, .undef, .undef, .undef, .undef, .undef, .undef, .undef, .undef, .undef, .undef, .undef]) (fun s H' => l20_0 n a0 a1 s.1 s.2 = some r ∧ Ext H H' ∧ ObjAt H' o1 ([.int .i64 a0.c0, .int .i64 a0.c1, .dl 1 (List.map (AV.int .i64) a0.c2) .none, .dl 1 (List.map (AV.int .i64) a0.c3) .none, .dl 1 (List.map (AV.int .u64) a0.c4) .none, .dl 1 (List.map (AV.int .u64) a0.c5) .none, .dl 1 (List.map (AV.int .u64) a0.c6) .none])) (fun s => s.1) ⟨⟨n, 0⟩, (by repeat' first | exact Wk.nil | apply Wk.u | apply Wk.r), ⟨hg, hE, f_o1⟩⟩ ?_
          rintro ⟨k27, x26⟩ H28 ⟨hg, hE, f9_o1⟩ _
          have f_o1 : H28[o1]? = some (.cells ([.int .i64 a0.c0, .int .i64 a0.c1, .dl 1 (List.map (AV.int .i64) a0.c2) .none, .dl 1 (List.map (AV.int .i64) a0.c3) .none, .dl 1 (List.map (AV.int .u64) a0.c4) .none, .dl 1 (List.map (AV.int .u64) a0.c5) .none, .dl 1 (List.map (AV.int .u64) a0.c6) .none])) := f9_o1
          clear f9_o1
          try dsimp only at hg
          cases k27 with
          | zero => simp only [l20_0, reduceCtorEq] at hg
          | succ k27 =>
           rw [l20_0] at hg
           refine eawp_sound noY_sound _ _ _ _ ?_
           simp only [EVA, reduceIte, reduceCtorEq, h5, eq_true h6, eq_true h7, eq_true h8, eq_true h9, eq_false h10, h15, h20, h25, f_o1, (show IntKind.i64.wrap 1 = 1 from rfl)]
           rcases ite_some hg with ⟨h29, hg⟩ | ⟨h29, hg⟩
           ·refine Br.yes h29 ?_
            obtain ⟨h30, hg⟩ := guard_some hg
            have q31 : List.getD (List.map encL3 a1) (Int.toNat x26) AV.undef = encL3 (rd a1 x26) := rd_map (l := a1) (i := x26) encL3 h30
            simp only [EVA, reduceIte, reduceCtorEq, h5, eq_true h6, eq_true h7, eq_true h8, eq_true h9, eq_false h10, h15, h20, h25, eq_true h29, eq_true h30.1, eq_true h30.2, q31, f_o1, (show IntKind.i64.wrap 1 = 1 from rfl)]
            refine AWP.draw noY_sound [[], [0], [], [2], [], [2, 3, 4], [2, 3, 4, 5], [0, 1, 2, 3, 4, 5, 6]] [⟨0, false, []⟩, ⟨2, false, []⟩, ⟨3, false, []⟩, ⟨4, false, []⟩, ⟨5, false, []⟩, ⟨6, false, []⟩, ⟨1, true, [3, 6]⟩, ⟨7, false, []⟩] [0, 1, 2, 3, 4, 5, 6, 7] [0, 1, 2, 3, 4, 5, 6, 7] (by kernel_rfl) ?_
            obtain ⟨h32, hg⟩ := guard_some hg
            have q33 : List.getD (List.map (AV.int .u64) a0.c6) (Int.toNat x26) AV.undef = (AV.int .u64) (rd a0.c6 x26) := rd_map (l := a0.c6) (i := x26) (AV.int .u64) h32
            simp only [EVA, reduceIte, reduceCtorEq, h5, eq_true h6, eq_true h7, eq_true h8, eq_true h9, eq_false h10, h15, h20, h25, eq_true h29, eq_true h30.1, eq_true h30.2, q31, eq_true h32.1, eq_true h32.2, q33, f_o1, (show IntKind.i64.wrap 1 = 1 from rfl)]
            obtain ⟨v34, ch35, hg⟩ := bind_some hg
            refine ACall.wkA (args := [.dl 7 (List.map encS1 (rd a1 x26)) .none]) (c23 B w0 n (rd a1 x26) .none _ _ v34 ch35  ?_) (WkA.r WkA.nil)
            intro H36 x37
            have f_o1 := x37.2 _ _ f_o1
            have hE := hE.trans x37
            simp only [EVA, reduceIte, reduceCtorEq, h5, eq_true h6, eq_true h7, eq_true h8, eq_true h9, eq_false h10, h15, h20, h25, eq_true h29, eq_true h30.1, eq_true h30.2, q31, eq_true h32.1, eq_true h32.2, q33, f_o1, (show IntKind.i64.wrap 1 = 1 from rfl)]
            rcases ite_some hg with ⟨h38, hg⟩ | ⟨h38, hg⟩
            ·refine Br.yes h38 ?_
             simp only [EVA, reduceIte, reduceCtorEq, h5, eq_true h6, eq_true h7, eq_true h8, eq_true h9, eq_false h10, h15, h20, h25, eq_true h29, eq_true h30.1, eq_true h30.2, q31, eq_true h32.1, eq_true h32.2, q33, eq_true h38, f_o1, (show IntKind.i64.wrap 1 = 1 from rfl)]
             exact ⟨⟨k27, IntKind.i64.wrap (x26 + 1)⟩, (by repeat' first | exact Wk.nil | apply Wk.u | apply Wk.r), ⟨hg, hE, f_o1⟩, Nat.lt_succ_self _⟩
            ·refine Br.no h38 ?_
             simp only [EVA, reduceIte, reduceCtorEq, rs20, h5, eq_true h6, eq_true h7, eq_true h8, eq_true h9, eq_false h10, h15, h20, h25, eq_true h29, eq_true h30.1, eq_true h30.2, q31, eq_true h32.1, eq_true h32.2, q33, eq_false h38, f_o1, (show IntKind.i64.wrap 1 = 1 from rfl)]
             obtain rfl := Option.some.inj hg
             exact (hK  _ hE )
           ·refine Br.no h29 ?_
            simp only [EVA, reduceIte, reduceCtorEq, h5, eq_true h6, eq_true h7, eq_true h8, eq_true h9, eq_false h10, h15, h20, h25, eq_false h29, f_o1, (show IntKind.i64.wrap 1 = 1 from rfl)]
            obtain ⟨v39, ch40, hg⟩ := bind_some hg
            refine ACall.wkA (args := [.dl 1 (List.map encL3 a1) ta1, .dl 1 (List.map (AV.int .u64) a0.c4) .none]) (c35 B w0 n a1 a0.c4 ta1 .none _ _ v39 ch40  ?_) (WkA.r (WkA.r WkA.nil))
            intro H41 x42
            have f_o1 := x42.2 _ _ f_o1
            have hE := hE.trans x42
            rcases ite_some hg with ⟨h43, hg⟩ | ⟨h43, hg⟩
            ·simp only [EVA, reduceIte, reduceCtorEq, rs20, h5, eq_true h6, eq_true h7, eq_true h8, eq_true h9, eq_false h10, h15, h20, h25, eq_false h29, h43, f_o1, (show IntKind.i64.wrap 1 = 1 from rfl)]
             obtain rfl := Option.some.inj hg
             exact (hK  _ hE )
            ·have h43 := Bool.eq_false_iff.2 h43
             simp only [EVA, reduceIte, reduceCtorEq, rs20, h5, eq_true h6, eq_true h7, eq_true h8, eq_true h9, eq_false h10, h15, h20, h25, eq_false h29, h43, f_o1, (show IntKind.i64.wrap 1 = 1 from rfl)]
             obtain rfl := Option.some.inj hg
             exact (hK  _ hE )
         ·have h25 := Bool.eq_false_iff.2 h25
          simp only [EVA, reduceIte, reduceCtorEq, rs20, h5, eq_true h6, eq_true h7, eq_true h8, eq_true h9, eq_false h10, h15, h20, h25, f_o1, (show IntKind.i64.wrap 1 = 1 from rfl)]
          obtain rfl := Option.some.inj hg
          exact (hK  _ hE )
        ·have h20 := Bool.eq_false_iff.2 h20
         simp only [EVA, reduceIte, reduceCtorEq, rs20, h5, eq_true h6, eq_true h7, eq_true h8, eq_true h9, eq_false h10, h15, h20, f_o1, (show IntKind.i64.wrap 1 = 1 from rfl)]
         obtain rfl := Option.some.inj hg
         exact (hK  _ hE )
       ·have h15 := Bool.eq_false_iff.2 h15
        simp only [EVA, reduceIte, reduceCtorEq, rs20, h5, eq_true h6, eq_true h7, eq_true h8, eq_true h9, eq_false h10, h15, f_o1, (show IntKind.i64.wrap 1 = 1 from rfl)]
        obtain rfl := Option.some.inj hg
        exact (hK  _ hE )
     ·refine Br.no h9 ?_
      simp only [EVA, reduceIte, reduceCtorEq, rs20, h5, eq_true h6, eq_true h7, eq_true h8, eq_false h9, f_o1, (show IntKind.i64.wrap 1 = 1 from rfl)]
      obtain rfl := Option.some.inj hg
      exact (hK  _ hE )
    ·refine Br.no h8 ?_
     simp only [EVA, reduceIte, reduceCtorEq, rs20, h5, eq_true h6, eq_true h7, eq_false h8, f_o1, (show IntKind.i64.wrap 1 = 1 from rfl)]
     obtain rfl := Option.some.inj hg
     exact (hK  _ hE )
   ·refine Br.no h7 ?_
    simp only [EVA, reduceIte, reduceCtorEq, rs20, h5, eq_true h6, eq_false h7, f_o1, (show IntKind.i64.wrap 1 = 1 from rfl)]
    obtain rfl := Option.some.inj hg
    exact (hK  _ hE )
  ·refine Br.no h6 ?_
   simp only [EVA, reduceIte, reduceCtorEq, rs20, h5, eq_false h6, f_o1, (show IntKind.i64.wrap 1 = 1 from rfl)]
   obtain rfl := Option.some.inj hg
   exact (hK  _ hE )
 ·have h5 := Bool.eq_false_iff.2 h5
  simp only [EVA, reduceIte, reduceCtorEq, rs20, h5, f_o1, (show IntKind.i64.wrap 1 = 1 from rfl)]
  obtain rfl := Option.some.inj hg
  exact (hK  _ hE )
/-- skymosaic/skymosaiclaw38.lives -/
theorem rs17 : Tryz.f17.results.toList = [.tmp 0] := rfl
def g17 (n : Nat)  : Option (Bool) := (g11 n 7 9 ([] : List S6) ([] : List S6) ([5, 3, 5] : List Int) ([] : List (List S1))).bind fun v1 => (g11 n 7 9 ([(⟨0, 0, [], 0, 0, 0, 0, true⟩ : S6)] : List S6) ([] : List S6) ([] : List Int) ([] : List (List S1))).bind fun v9 => if v1.2 = 0 then (if v9.2 = 1 then ((g43 n v1.1.c4 ([3, 5] : List Int)).bind fun v19 => if v19 = true then ((g20 n (⟨v1.1.c0, v1.1.c1, v1.1.c2, v1.1.c3, v1.1.c4, v1.1.c5, v1.1.c6⟩ : S8) ([] : List (List S1))).bind fun v22 => some (decide (v22 = 0))) else (some false)) else (some false)) else (some false)
theorem c17 (B : Nat) (w0 : World) (n : Nat)  (H : AHeap) (K : AV → AHeap → Prop) (r : (Bool)) (hg : g17 n  = some r)  (hK : ∀ (H' : AHeap), Ext H H' → K (.bool r) H') : ACall Tryz.prog B w0 17 [] H K := by
 unfold g17 at hg
 refine ACall.enter Tryz.func17 (by kernel_rfl) rfl (eawp_sound noY_sound _ _ _ _ ?_)
 have hE : Ext H H := Ext.refl H
 simp only [EVA, reduceIte, reduceCtorEq, Nat.reduceLT, Nat.reduceLeDiff, Int.reduceEq, Int.reduceLT, Int.reduceLE, Nat.reduceMul, Tryz.ntmps17, rs17]
 obtain ⟨v1, ch2, hg⟩ := bind_some hg
 refine ACall.wkA (args := [.int .i64 7, .int .i64 9, .dl 8 (List.map encS6 ([] : List S6)) .full, .dl 8 (List.map encS6 ([] : List S6)) .full, .dl 1 (List.map (AV.int .u64) ([5, 3, 5] : List Int)) .full, .dl 1 (List.map encL3 ([] : List (List S1))) .full]) (c11 B w0 n 7 9 ([] : List S6) ([] : List S6) ([5, 3, 5] : List Int) ([] : List (List S1)) .full .full .full .full _ _ v1 ch2  ?_) (WkA.r (WkA.r (WkA.cons (wkA.v (wkV.nilf _ _)) (WkA.cons (wkA.v (wkV.nilf _ _)) (WkA.r (WkA.cons (wkA.v (wkV.nilf _ _)) WkA.nil))))))
 intro H3 x4
 have hE := hE.trans x4
 simp only [EVA, reduceIte, reduceCtorEq, Nat.reduceLT, Nat.reduceLeDiff, Int.reduceEq, Int.reduceLT, Int.reduceLE, Nat.reduceMul]
 refine eop_alloc_go (H0 := H) ty33 rfl rfl hE ?_
 intro o5 H6 hE xo5 g_o5 f_o5 n_o5
 have f_o5 : H6[o5]? = some (.cells ([.int .i64 0, .int .i64 0, .dl 0 [] .full, .dl 0 [] .full, .dl 0 [] .full, .dl 0 [] .full, .dl 0 [] .full])) := f_o5
 simp only [EVA, reduceIte, reduceCtorEq, Nat.reduceLT, Nat.reduceLeDiff, Int.reduceEq, Int.reduceLT, Int.reduceLE, Nat.reduceMul, f_o5]
 refine eop_store_go (H0 := H) (id := o5) (off := 0) (v := .agg [.int .i64 v1.1.c0, .int .i64 v1.1.c1, .dl 1 (List.map (AV.int .i64) v1.1.c2) .none, .dl 1 (List.map (AV.int .i64) v1.1.c3) .none, .dl 1 (List.map (AV.int .u64) v1.1.c4) .none, .dl 1 (List.map (AV.int .u64) v1.1.c5) .none, .dl 1 (List.map (AV.int .u64) v1.1.c6) .none]) rfl rfl f_o5 ty33 rfl rfl (Nat.le_of_ble_eq_true rfl) hE g_o5 ?_
 intro H7 hE f9_o5 p8 l9
 have f_o5 : H7[o5]? = some (.cells ([.int .i64 v1.1.c0, .int .i64 v1.1.c1, .dl 1 (List.map (AV.int .i64) v1.1.c2) .none, .dl 1 (List.map (AV.int .i64) v1.1.c3) .none, .dl 1 (List.map (AV.int .u64) v1.1.c4) .none, .dl 1 (List.map (AV.int .u64) v1.1.c5) .none, .dl 1 (List.map (AV.int .u64) v1.1.c6) .none])) := f9_o5
 simp only [EVA, reduceIte, reduceCtorEq, Nat.reduceLT, Nat.reduceLeDiff, Int.reduceEq, Int.reduceLT, Int.reduceLE, Nat.reduceMul, f_o5]
 obtain ⟨v9, ch10, hg⟩ := bind_some hg
 refine ACall.wkA (args := [.int .i64 7, .int .i64 9, .dl 8 (List.map encS6 ([(⟨0, 0, [], 0, 0, 0, 0, true⟩ : S6)] : List S6)) .full, .dl 8 (List.map encS6 ([] : List S6)) .full, .dl 1 (List.map (AV.int .u64) ([] : List Int)) .full, .dl 1 (List.map encL3 ([] : List (List S1))) .full]) (c11 B w0 n 7 9 ([(⟨0, 0, [], 0, 0, 0, 0, true⟩ : S6)] : List S6) ([] : List S6) ([] : List Int) ([] : List (List S1)) .full .full .full .full _ _ v9 ch10  ?_) (WkA.r (WkA.r (WkA.r (WkA.cons (wkA.v (wkV.nilf _ _)) (WkA.cons (wkA.v (wkV.nilf _ _)) (WkA.cons (wkA.v (wkV.nilf _ _)) WkA.nil))))))
 intro H11 x12
 have f_o5 := x12.2 _ _ f_o5
 have hE := hE.trans x12
 simp only [EVA, reduceIte, reduceCtorEq, Nat.reduceLT, Nat.reduceLeDiff, Int.reduceEq, Int.reduceLT, Int.reduceLE, Nat.reduceMul, f_o5]
 refine eop_alloc_go (H0 := H) ty33 rfl rfl hE ?_
 intro o13 H14 hE xo13 g_o13 f_o13 n_o13
 have ne_o5_o13 := n_o13 _ _ f_o5
 have f_o5 := xo13.2 _ _ f_o5
 have f_o13 : H14[o13]? = some (.cells ([.int .i64 0, .int .i64 0, .dl 0 [] .full, .dl 0 [] .full, .dl 0 [] .full, .dl 0 [] .full, .dl 0 [] .full])) := f_o13
 simp only [EVA, reduceIte, reduceCtorEq, Nat.reduceLT, Nat.reduceLeDiff, Int.reduceEq, Int.reduceLT, Int.reduceLE, Nat.reduceMul, f_o5, f_o13]
 refine eop_store_go (H0 := H) (id := o13) (off := 0) (v := .agg [.int .i64 v9.1.c0, .int .i64 v9.1.c1, .dl 1 (List.map (AV.int .i64) v9.1.c2) .none, .dl 1 (List.map (AV.int .i64) v9.1.c3) .none, .dl 1 (List.map (AV.int .u64) v9.1.c4) .none, .dl 1 (List.map (AV.int .u64) v9.1.c5) .none, .dl 1 (List.map (AV.int .u64) v9.1.c6) .none]) rfl rfl f_o13 ty33 rfl rfl (Nat.le_of_ble_eq_true rfl) hE g_o13 ?_
 intro H15 hE f9_o13 p16 l9
 have f_o5 := p16 _ _ ne_o5_o13 f_o5
 have f_o13 : H15[o13]? = some (.cells ([.int .i64 v9.1.c0, .int .i64 v9.1.c1, .dl 1 (List.map (AV.int .i64) v9.1.c2) .none, .dl 1 (List.map (AV.int .i64) v9.1.c3) .none, .dl 1 (List.map (AV.int .u64) v9.1.c4) .none, .dl 1 (List.map (AV.int .u64) v9.1.c5) .none, .dl 1 (List.map (AV.int .u64) v9.1.c6) .none])) := f9_o13
 simp only [EVA, reduceIte, reduceCtorEq, Nat.reduceLT, Nat.reduceLeDiff, Int.reduceEq, Int.reduceLT, Int.reduceLE, Nat.reduceMul, f_o5, f_o13]
 rcases ite_some hg with ⟨h17, hg⟩ | ⟨h17, hg⟩
 ·refine Br.yes h17 ?_
  simp only [EVA, reduceIte, reduceCtorEq, Nat.reduceLT, Nat.reduceLeDiff, Int.reduceEq, Int.reduceLT, Int.reduceLE, Nat.reduceMul, eq_true h17, f_o5, f_o13]
  rcases ite_some hg with ⟨h18, hg⟩ | ⟨h18, hg⟩
  ·refine Br.yes h18 ?_
   simp only [EVA, reduceIte, reduceCtorEq, Nat.reduceLT, Nat.reduceLeDiff, Int.reduceEq, Int.reduceLT, Int.reduceLE, Nat.reduceMul, eq_true h17, eq_true h18, f_o5, f_o13]
   obtain ⟨v19, ch20, hg⟩ := bind_some hg
   refine ACall.wkA (args := [.dl 1 (List.map (AV.int .u64) v1.1.c4) .none, .dl 1 (List.map (AV.int .u64) ([3, 5] : List Int)) .full]) (c43 B w0 n v1.1.c4 ([3, 5] : List Int) .none .full _ _ v19 ch20  ?_) (WkA.r (WkA.r WkA.nil))
   rcases ite_some hg with ⟨h21, hg⟩ | ⟨h21, hg⟩
   ·simp only [EVA, reduceIte, reduceCtorEq, Nat.reduceLT, Nat.reduceLeDiff, Int.reduceEq, Int.reduceLT, Int.reduceLE, Nat.reduceMul, eq_true h17, eq_true h18, h21, f_o5, f_o13]
    obtain ⟨v22, ch23, hg⟩ := bind_some hg
    refine ACall.wkA (args := [.agg [.int .i64 v1.1.c0, .int .i64 v1.1.c1, .dl 1 (List.map (AV.int .i64) v1.1.c2) .none, .dl 1 (List.map (AV.int .i64) v1.1.c3) .none, .dl 1 (List.map (AV.int .u64) v1.1.c4) .none, .dl 1 (List.map (AV.int .u64) v1.1.c5) .none, .dl 1 (List.map (AV.int .u64) v1.1.c6) .none], .dl 1 (List.map encL3 ([] : List (List S1))) .full]) (c20 B w0 n (⟨v1.1.c0, v1.1.c1, v1.1.c2, v1.1.c3, v1.1.c4, v1.1.c5, v1.1.c6⟩ : S8) ([] : List (List S1)) .full _ _ v22 ch23  ?_) (WkA.cons (wkA.agg (by repeat' first | exact Wk.nil | apply Wk.u | apply Wk.r)) (WkA.cons (wkA.v (wkV.nilf _ _)) WkA.nil))
    intro H24 x25
    have f_o5 := x25.2 _ _ f_o5
    have f_o13 := x25.2 _ _ f_o13
    have hE := hE.trans x25
    simp only [EVA, reduceIte, reduceCtorEq, Nat.reduceLT, Nat.reduceLeDiff, Int.reduceEq, Int.reduceLT, Int.reduceLE, Nat.reduceMul, rs17, eq_true h17, eq_true h18, h21, f_o5, f_o13]
    obtain rfl := Option.some.inj hg
    exact (hK  _ hE )
   ·have h21 := Bool.eq_false_iff.2 h21
    simp only [EVA, reduceIte, reduceCtorEq, Nat.reduceLT, Nat.reduceLeDiff, Int.reduceEq, Int.reduceLT, Int.reduceLE, Nat.reduceMul, rs17, eq_true h17, eq_true h18, h21, f_o5, f_o13]
    obtain rfl := Option.some.inj hg
    exact (hK  _ hE )
  ·refine Br.no h18 ?_
   simp only [EVA, reduceIte, reduceCtorEq, Nat.reduceLT, Nat.reduceLeDiff, Int.reduceEq, Int.reduceLT, Int.reduceLE, Nat.reduceMul, rs17, eq_true h17, eq_false h18, f_o5, f_o13]
   obtain rfl := Option.some.inj hg
   exact (hK  _ hE )
 ·refine Br.no h17 ?_
  simp only [EVA, reduceIte, reduceCtorEq, Nat.reduceLT, Nat.reduceLeDiff, Int.reduceEq, Int.reduceLT, Int.reduceLE, Nat.reduceMul, rs17, eq_false h17, f_o5, f_o13]
  obtain rfl := Option.some.inj hg
  exact (hK  _ hE )
/-- skymosaic/skymosaiclaw38.receipt -/
theorem rs18 : Tryz.f18.results.toList = [.cell 8 41, .tmp 9, .tmp 10] := rfl
def g18 (n : Nat) (a0 : List Int) (a1 : List Int) (a2 : Int) (a3 : Int) : Option (S8 × List (List S1) × Bool) := (g8 n a0 a2).bind fun v3 => (g10 n a1 (v3.1.length : Int)).bind fun v12 => (g9 n a1 a3).bind fun v20 => (g14 n 5 a2 v3.1 v3.2 v20 v12).bind fun v29 => some ((⟨v29.1.c0, v29.1.c1, v29.1.c2, v29.1.c3, v29.1.c4, v29.1.c5, v29.1.c6⟩ : S8), v12, (decide (v29.2 = 0)))
theorem c18 (B : Nat) (w0 : World) (n : Nat) (a0 : List Int) (a1 : List Int) (a2 : Int) (a3 : Int) (ta0 : Tail) (ta1 : Tail) (H : AHeap) (K : AV → AHeap → Prop) (r : (S8 × List (List S1) × Bool)) (hg : g18 n a0 a1 a2 a3 = some r)  (hK : ∀ (q1 : Tail) (H' : AHeap), Ext H H' → Free H H' q1 → K (.tup [.agg [.int .i64 r.1.c0, .int .i64 r.1.c1, .dl 1 (List.map (AV.int .i64) r.1.c2) .none, .dl 1 (List.map (AV.int .i64) r.1.c3) .none, .dl 1 (List.map (AV.int .u64) r.1.c4) .none, .dl 1 (List.map (AV.int .u64) r.1.c5) .none, .dl 1 (List.map (AV.int .u64) r.1.c6) .none], .dl 1 (List.map encL3 r.2.1) q1, .bool r.2.2]) H') : ACall Tryz.prog B w0 18 [.dl 1 (List.map (AV.int .i64) a0) ta0, .dl 1 (List.map (AV.int .i64) a1) ta1, .int .i64 a2, .int .i64 a3] H K := by
 refine ACall.wkR ?_
 unfold g18 at hg
 refine ACall.enter Tryz.func18 (by kernel_rfl) rfl (eawp_sound noY_sound _ _ _ _ ?_)
 have hE : Ext H H := Ext.refl H
 simp only [EVA, reduceIte, reduceCtorEq, Tryz.ntmps18, rs18]
 refine eop_alloc_go (H0 := H) ty41 rfl rfl hE ?_
 intro o1 H2 hE xo1 g_o1 f_o1 n_o1
 have f_o1 : H2[o1]? = some (.cells ([.int .i64 0, .int .i64 0, .dl 0 [] .full, .dl 0 [] .full, .dl 0 [] .full, .dl 0 [] .full, .dl 0 [] .full])) := f_o1
 simp only [EVA, reduceIte, reduceCtorEq, f_o1]
 obtain ⟨v3, ch4, hg⟩ := bind_some hg
 refine ACall.wkA (args := [.dl 1 (List.map (AV.int .i64) a0) ta0, .int .i64 a2]) (c8 B w0 n a0 a2 ta0 _ _ v3 ch4  ?_) (WkA.r (WkA.r WkA.nil))
 intro tl5 tl6 H7 x8 F9 F10 D11
 have F9 := F9.low hE
 have F10 := F10.low hE
 have f_o1 := x8.2 _ _ f_o1
 have hE := hE.trans x8
 simp only [EVA, reduceIte, reduceCtorEq, f_o1]
 obtain ⟨v12, ch13, hg⟩ := bind_some hg
 refine ACall.wkA (args := [.dl 1 (List.map (AV.int .i64) a1) ta1, .int .i64 (v3.1.length : Int)]) (c10 B w0 n a1 (v3.1.length : Int) ta1 _ _ v12 ch13  ?_) (WkA.r (WkA.r WkA.nil))
 intro tl14 H15 x16 F17
 have D18 := Free.ne F9 F17
 have D19 := Free.ne F10 F17
 have F9 := F9.mono x16
 have F10 := F10.mono x16
 have F17 := F17.low hE
 have f_o1 := x16.2 _ _ f_o1
 have hE := hE.trans x16
 simp only [EVA, reduceIte, reduceCtorEq, f_o1]
 obtain ⟨v20, ch21, hg⟩ := bind_some hg
 refine ACall.wkA (args := [.dl 1 (List.map (AV.int .i64) a1) ta1, .int .i64 a3]) (c9 B w0 n a1 a3 ta1 _ _ v20 ch21  ?_) (WkA.r (WkA.r WkA.nil))
 intro tl22 H23 x24 F25
 have D26 := Free.ne F9 F25
 have D27 := Free.ne F10 F25
 have D28 := Free.ne F17 F25
 have F9 := F9.mono x24
 have F10 := F10.mono x24
 have F17 := F17.mono x24
 have F25 := F25.low hE
 have f_o1 := x24.2 _ _ f_o1
 have hE := hE.trans x24
 simp only [EVA, reduceIte, reduceCtorEq, f_o1]
 obtain ⟨v29, ch30, hg⟩ := bind_some hg
 refine ACall.wkA (args := [.int .i64 5, .int .i64 a2, .dl 7 (List.map encS2 v3.1) tl5, .dl 7 (List.map encS2 v3.2) tl6, .dl 1 (List.map (AV.int .u64) v20) tl22, .dl 1 (List.map encL3 v12) tl14]) (c14 B w0 n 5 a2 v3.1 v3.2 v20 v12 tl5 tl6 tl22 tl14 _ _ v29 ch30  ?_) (WkA.r (WkA.r (WkA.r (WkA.r (WkA.r (WkA.r WkA.nil))))))
 intro H31 x32
 have F9 := F9.mono x32
 have F10 := F10.mono x32
 have F17 := F17.mono x32
 have F25 := F25.mono x32
 have f_o1 := x32.2 _ _ f_o1
 have hE := hE.trans x32
 simp only [EVA, reduceIte, reduceCtorEq, f_o1]
 refine eop_alloc_go (H0 := H) ty41 rfl rfl hE ?_
 intro o33 H34 hE xo33 g_o33 f_o33 n_o33
 have ne_o1_o33 := n_o33 _ _ f_o1
 have f_o1 := xo33.2 _ _ f_o1
 have F9 := F9.mono xo33
 have F10 := F10.mono xo33
 have F17 := F17.mono xo33
 have F25 := F25.mono xo33
 have f_o33 : H34[o33]? = some (.cells ([.int .i64 0, .int .i64 0, .dl 0 [] .full, .dl 0 [] .full, .dl 0 [] .full, .dl 0 [] .full, .dl 0 [] .full])) := f_o33
 simp only [EVA, reduceIte, reduceCtorEq, f_o1, f_o33]
 refine eop_store_go (H0 := H) (id := o33) (off := 0) (v := .agg [.int .i64 v29.1.c0, .int .i64 v29.1.c1, .dl 1 (List.map (AV.int .i64) v29.1.c2) .none, .dl 1 (List.map (AV.int .i64) v29.1.c3) .none, .dl 1 (List.map (AV.int .u64) v29.1.c4) .none, .dl 1 (List.map (AV.int .u64) v29.1.c5) .none, .dl 1 (List.map (AV.int .u64) v29.1.c6) .none]) rfl rfl f_o33 ty41 rfl rfl (Nat.le_of_ble_eq_true rfl) hE g_o33 ?_
 intro H35 hE f9_o33 p36 l9
 have F9 := F9.keep f_o33 p36
 have F10 := F10.keep f_o33 p36
 have F17 := F17.keep f_o33 p36
 have F25 := F25.keep f_o33 p36
 have f_o1 := p36 _ _ ne_o1_o33 f_o1
 have f_o33 : H35[o33]? = some (.cells ([.int .i64 v29.1.c0, .int .i64 v29.1.c1, .dl 1 (List.map (AV.int .i64) v29.1.c2) .none, .dl 1 (List.map (AV.int .i64) v29.1.c3) .none, .dl 1 (List.map (AV.int .u64) v29.1.c4) .none, .dl 1 (List.map (AV.int .u64) v29.1.c5) .none, .dl 1 (List.map (AV.int .u64) v29.1.c6) .none])) := f9_o33
 simp only [EVA, reduceIte, reduceCtorEq, f_o1, f_o33]
 refine eop_store_go (H0 := H) (id := o1) (off := 0) (v := .agg [.int .i64 v29.1.c0, .int .i64 v29.1.c1, .dl 1 (List.map (AV.int .i64) v29.1.c2) .none, .dl 1 (List.map (AV.int .i64) v29.1.c3) .none, .dl 1 (List.map (AV.int .u64) v29.1.c4) .none, .dl 1 (List.map (AV.int .u64) v29.1.c5) .none, .dl 1 (List.map (AV.int .u64) v29.1.c6) .none]) rfl rfl f_o1 ty41 rfl rfl (Nat.le_of_ble_eq_true rfl) hE g_o1 ?_
 intro H37 hE f9_o1 p38 l9
 have F9 := F9.keep f_o1 p38
 have F10 := F10.keep f_o1 p38
 have F17 := F17.keep f_o1 p38
 have F25 := F25.keep f_o1 p38
 have f_o33 := p38 _ _ (Ne.symm ne_o1_o33) f_o33
 have f_o1 : H37[o1]? = some (.cells ([.int .i64 v29.1.c0, .int .i64 v29.1.c1, .dl 1 (List.map (AV.int .i64) v29.1.c2) .none, .dl 1 (List.map (AV.int .i64) v29.1.c3) .none, .dl 1 (List.map (AV.int .u64) v29.1.c4) .none, .dl 1 (List.map (AV.int .u64) v29.1.c5) .none, .dl 1 (List.map (AV.int .u64) v29.1.c6) .none])) := f9_o1
 simp only [EVA, reduceIte, reduceCtorEq, rs18, f_o1, f_o33]
 obtain rfl := Option.some.inj hg
 exact ⟨_, (wkR.tup (WkA.cons (wkA.agg (by repeat' first | exact Wk.nil | apply Wk.u | apply Wk.r)) (WkA.r (WkA.r WkA.nil)))), (hK tl14 _ hE F17)⟩
end Go.Av
end
