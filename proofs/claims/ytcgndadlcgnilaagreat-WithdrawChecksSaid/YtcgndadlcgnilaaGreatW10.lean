/- the walks, part 10 -/
import Derived.Test.YtcgndadlcgnilaaGreatA28
import Derived.Test.YtcgndadlcgnilaaGreatW1
set_option autoImplicit false
set_option linter.unusedSimpArgs false
set_option linter.unusedVariables false
set_option linter.unnecessarySimpa false
section
set_option maxHeartbeats 1000000
set_option maxRecDepth 10000
namespace Go.Av
open Go.Proofs
/-- skymosaic/skymosaicref38.Bent -/
theorem rs19 : Tryz.f19.results.toList = [.cell 6 41] := rfl
def g19 (n : Nat) (a0 : S8) (a1 : Int) (a2 : Int) : Option (S8) := if g7 n a1 9 = some 8 ∧ ¬ a0.c2 = [] then (if a0.c2.length ≤ 17592186044416 then (if 0 + a0.c3.length ≤ 17592186044416 then (if 0 + a0.c4.length ≤ 17592186044416 then (if 0 + a0.c5.length ≤ 17592186044416 then (if 0 + a0.c6.length ≤ 17592186044416 then ((g7 n a1 9).bind fun v280 => if v280 = 0 then ((g7 n a2 4).bind fun v283 => if (0 : Int) ≤ v283 ∧ v283 < 4 then (if a0.c2.length ≤ a0.c2.length then (some (⟨rd ([a2, (-1), 4095, 4096] : List Int) v283, a0.c1, List.take a0.c2.length a0.c2, a0.c3, a0.c4, a0.c5, a0.c6⟩ : S8)) else none) else none) else (if v280 = 1 then ((g7 n a2 4).bind fun v293 => if (0 : Int) ≤ v293 ∧ v293 < 4 then (if a0.c2.length ≤ a0.c2.length then (some (⟨a0.c0, rd ([a2, (-1), 1099511627776, 1099511627777] : List Int) v293, List.take a0.c2.length a0.c2, a0.c3, a0.c4, a0.c5, a0.c6⟩ : S8)) else none) else none) else (if v280 = 2 then (none) else (if v280 = 3 then (if a0.c3.length + 1 ≤ 17592186044416 then (if a0.c2.length ≤ a0.c2.length then (some (⟨a0.c0, a0.c1, List.take a0.c2.length a0.c2, a0.c3 ++ ([a2] : List Int), a0.c4, a0.c5, a0.c6⟩ : S8)) else none) else none) else (if v280 = 4 then ((g7 n a2 30).bind fun v317 => if a0.c4.length + 1 ≤ 17592186044416 then (if a0.c2.length ≤ a0.c2.length then (some (⟨a0.c0, a0.c1, List.take a0.c2.length a0.c2, a0.c3, a0.c4 ++ ([IntKind.u64.wrap v317] : List Int), a0.c5, a0.c6⟩ : S8)) else none) else none) else (if v280 = 5 then (if a0.c5.length + 1 ≤ 17592186044416 then (if a0.c2.length ≤ a0.c2.length then (some (⟨a0.c0, a0.c1, List.take a0.c2.length a0.c2, a0.c3, a0.c4, a0.c5 ++ ([1] : List Int), a0.c6⟩ : S8)) else none) else none) else (if v280 = 6 then (if a0.c6.length + 1 ≤ 17592186044416 then (if a0.c2.length ≤ a0.c2.length then (some (⟨a0.c0, a0.c1, List.take a0.c2.length a0.c2, a0.c3, a0.c4, a0.c5, a0.c6 ++ ([1] : List Int)⟩ : S8)) else none) else none) else (if v280 = 7 then (if 0 < (a0.c6.length : Int) then (if (0 : Int) ≤ 0 ∧ 0 < (a0.c6.length : Int) then (if (0 : Int) ≤ 0 ∧ 0 < (a0.c6.length : Int) then (none) else none) else none) else (if a0.c2.length ≤ a0.c2.length then (some (⟨a0.c0, a0.c1, List.take a0.c2.length a0.c2, a0.c3, a0.c4, a0.c5, a0.c6⟩ : S8)) else none)) else (if v280 = 8 then (if 0 < ((a0.c2.length : Nat) : Int) then (if (0 : Int) ≤ 0 ∧ 0 < ((a0.c2.length : Nat) : Int) then (if 0 < a0.c2.length then (if a0.c2.length ≤ (List.set a0.c2 0 a2).length then (some (⟨a0.c0, a0.c1, List.take a0.c2.length (List.set a0.c2 0 a2), a0.c3, a0.c4, a0.c5, a0.c6⟩ : S8)) else none) else none) else none) else (if a0.c2.length ≤ a0.c2.length then (some (⟨a0.c0, a0.c1, List.take a0.c2.length a0.c2, a0.c3, a0.c4, a0.c5, a0.c6⟩ : S8)) else none)) else (if a0.c2.length ≤ a0.c2.length then (some (⟨a0.c0, a0.c1, List.take a0.c2.length a0.c2, a0.c3, a0.c4, a0.c5, a0.c6⟩ : S8)) else none)))))))))) else none) else none) else none) else none) else none) else (if 0 + a0.c2.length ≤ 17592186044416 then (if 0 + a0.c3.length ≤ 17592186044416 then (if 0 + a0.c4.length ≤ 17592186044416 then (if 0 + a0.c5.length ≤ 17592186044416 then (if g7 n a1 9 = some 7 ∧ ¬ a0.c6 = [] then (if a0.c6.length ≤ 17592186044416 then ((g7 n a1 9).bind fun v147 => if v147 = 0 then ((g7 n a2 4).bind fun v150 => if (0 : Int) ≤ v150 ∧ v150 < 4 then (if a0.c6.length ≤ a0.c6.length then (some (⟨rd ([a2, (-1), 4095, 4096] : List Int) v150, a0.c1, a0.c2, a0.c3, a0.c4, a0.c5, List.take a0.c6.length a0.c6⟩ : S8)) else none) else none) else (if v147 = 1 then ((g7 n a2 4).bind fun v160 => if (0 : Int) ≤ v160 ∧ v160 < 4 then (if a0.c6.length ≤ a0.c6.length then (some (⟨a0.c0, rd ([a2, (-1), 1099511627776, 1099511627777] : List Int) v160, a0.c2, a0.c3, a0.c4, a0.c5, List.take a0.c6.length a0.c6⟩ : S8)) else none) else none) else (if v147 = 2 then (if a0.c2.length + 1 ≤ 17592186044416 then (if a0.c6.length ≤ a0.c6.length then (some (⟨a0.c0, a0.c1, a0.c2 ++ ([a2] : List Int), a0.c3, a0.c4, a0.c5, List.take a0.c6.length a0.c6⟩ : S8)) else none) else none) else (if v147 = 3 then (if a0.c3.length + 1 ≤ 17592186044416 then (if a0.c6.length ≤ a0.c6.length then (some (⟨a0.c0, a0.c1, a0.c2, a0.c3 ++ ([a2] : List Int), a0.c4, a0.c5, List.take a0.c6.length a0.c6⟩ : S8)) else none) else none) else (if v147 = 4 then ((g7 n a2 30).bind fun v196 => if a0.c4.length + 1 ≤ 17592186044416 then (if a0.c6.length ≤ a0.c6.length then (some (⟨a0.c0, a0.c1, a0.c2, a0.c3, a0.c4 ++ ([IntKind.u64.wrap v196] : List Int), a0.c5, List.take a0.c6.length a0.c6⟩ : S8)) else none) else none) else (if v147 = 5 then (if a0.c5.length + 1 ≤ 17592186044416 then (if a0.c6.length ≤ a0.c6.length then (some (⟨a0.c0, a0.c1, a0.c2, a0.c3, a0.c4, a0.c5 ++ ([1] : List Int), List.take a0.c6.length a0.c6⟩ : S8)) else none) else none) else (if v147 = 6 then (none) else (if v147 = 7 then (if 0 < ((a0.c6.length : Nat) : Int) then (if (0 : Int) ≤ 0 ∧ 0 < ((a0.c6.length : Nat) : Int) then (if 0 < a0.c6.length then (if (0 : Int) ≤ 0 ∧ 0 < ((a0.c6.length : Nat) : Int) then (if 0 < a0.c6.length then (if a0.c6.length ≤ (List.set a0.c6 0 (IntKind.u64.wrap ((rdn a0.c6 0) + 1))).length then (some (⟨a0.c0, a0.c1, a0.c2, a0.c3, a0.c4, a0.c5, List.take a0.c6.length (List.set a0.c6 0 (IntKind.u64.wrap ((rdn a0.c6 0) + 1)))⟩ : S8)) else none) else none) else none) else none) else none) else (if a0.c6.length ≤ a0.c6.length then (some (⟨a0.c0, a0.c1, a0.c2, a0.c3, a0.c4, a0.c5, List.take a0.c6.length a0.c6⟩ : S8)) else none)) else (if v147 = 8 then (if 0 < (a0.c2.length : Int) then (none) else (if a0.c6.length ≤ a0.c6.length then (some (⟨a0.c0, a0.c1, a0.c2, a0.c3, a0.c4, a0.c5, List.take a0.c6.length a0.c6⟩ : S8)) else none)) else (if a0.c6.length ≤ a0.c6.length then (some (⟨a0.c0, a0.c1, a0.c2, a0.c3, a0.c4, a0.c5, List.take a0.c6.length a0.c6⟩ : S8)) else none)))))))))) else none) else (if 0 + a0.c6.length ≤ 17592186044416 then ((g7 n a1 9).bind fun v47 => if v47 = 0 then ((g7 n a2 4).bind fun v50 => if (0 : Int) ≤ v50 ∧ v50 < 4 then (some (⟨rd ([a2, (-1), 4095, 4096] : List Int) v50, a0.c1, a0.c2, a0.c3, a0.c4, a0.c5, a0.c6⟩ : S8)) else none) else (if v47 = 1 then ((g7 n a2 4).bind fun v59 => if (0 : Int) ≤ v59 ∧ v59 < 4 then (some (⟨a0.c0, rd ([a2, (-1), 1099511627776, 1099511627777] : List Int) v59, a0.c2, a0.c3, a0.c4, a0.c5, a0.c6⟩ : S8)) else none) else (if v47 = 2 then (if a0.c2.length + 1 ≤ 17592186044416 then (some (⟨a0.c0, a0.c1, a0.c2 ++ ([a2] : List Int), a0.c3, a0.c4, a0.c5, a0.c6⟩ : S8)) else none) else (if v47 = 3 then (if a0.c3.length + 1 ≤ 17592186044416 then (some (⟨a0.c0, a0.c1, a0.c2, a0.c3 ++ ([a2] : List Int), a0.c4, a0.c5, a0.c6⟩ : S8)) else none) else (if v47 = 4 then ((g7 n a2 30).bind fun v94 => if a0.c4.length + 1 ≤ 17592186044416 then (some (⟨a0.c0, a0.c1, a0.c2, a0.c3, a0.c4 ++ ([IntKind.u64.wrap v94] : List Int), a0.c5, a0.c6⟩ : S8)) else none) else (if v47 = 5 then (if a0.c5.length + 1 ≤ 17592186044416 then (some (⟨a0.c0, a0.c1, a0.c2, a0.c3, a0.c4, a0.c5 ++ ([1] : List Int), a0.c6⟩ : S8)) else none) else (if v47 = 6 then (if a0.c6.length + 1 ≤ 17592186044416 then (some (⟨a0.c0, a0.c1, a0.c2, a0.c3, a0.c4, a0.c5, a0.c6 ++ ([1] : List Int)⟩ : S8)) else none) else (if v47 = 7 then (if 0 < (a0.c6.length : Int) then (none) else (some (⟨a0.c0, a0.c1, a0.c2, a0.c3, a0.c4, a0.c5, a0.c6⟩ : S8))) else (if v47 = 8 then (if 0 < (a0.c2.length : Int) then (none) else (some (⟨a0.c0, a0.c1, a0.c2, a0.c3, a0.c4, a0.c5, a0.c6⟩ : S8))) else (some (⟨a0.c0, a0.c1, a0.c2, a0.c3, a0.c4, a0.c5, a0.c6⟩ : S8))))))))))) else none)) else none) else none) else none) else none)
theorem c19 (B : Nat) (w0 : World) (n : Nat) (a0 : S8) (a1 : Int) (a2 : Int) (H : AHeap) (K : AV → AHeap → Prop) (r : (S8)) (hg : g19 n a0 a1 a2 = some r)  (hK : ∀ (H' : AHeap), Ext H H' → K (.agg [.int .i64 r.c0, .int .i64 r.c1, .dl 1 (List.map (AV.int .i64) r.c2) .none, .dl 1 (List.map (AV.int .i64) r.c3) .none, .dl 1 (List.map (AV.int .u64) r.c4) .none, .dl 1 (List.map (AV.int .u64) r.c5) .none, .dl 1 (List.map (AV.int .u64) r.c6) .none]) H') : ACall Tryz.prog B w0 19 [.agg [.int .i64 a0.c0, .int .i64 a0.c1, .dl 1 (List.map (AV.int .i64) a0.c2) .none, .dl 1 (List.map (AV.int .i64) a0.c3) .none, .dl 1 (List.map (AV.int .u64) a0.c4) .none, .dl 1 (List.map (AV.int .u64) a0.c5) .none, .dl 1 (List.map (AV.int .u64) a0.c6) .none], .int .i64 a1, .int .i64 a2] H K := by
 refine ACall.frzA ?_
 unfold g19 at hg
 refine ACall.enter Tryz.func19 (by kernel_rfl) rfl (eawp_sound noY_sound _ _ _ _ ?_)
 have hE : Ext H H := Ext.refl H
 simp only [EVA, reduceIte, reduceCtorEq, Nat.reduceLT, Nat.reduceLeDiff, Int.reduceEq, Int.reduceLT, Int.reduceLE, Nat.reduceMul, Int.reduceToNat, Nat.reduceAdd, Tryz.ntmps19, rs19]
 refine eop_box_go (H0 := H) (v := .agg [.int .i64 a0.c0, .int .i64 a0.c1, .dl 1 (List.map (AV.int .i64) a0.c2) .none, .dl 1 (List.map (AV.int .i64) a0.c3) .none, .dl 1 (List.map (AV.int .u64) a0.c4) .none, .dl 1 (List.map (AV.int .u64) a0.c5) .none, .dl 1 (List.map (AV.int .u64) a0.c6) .none]) rfl rfl hE ?_
 intro o1 H2 hE xo1 g_o1 f_o1 n_o1
 have f_o1 : H2[o1]? = some (.cells ([.int .i64 a0.c0, .int .i64 a0.c1, .dl 1 (List.map (AV.int .i64) a0.c2) .none, .dl 1 (List.map (AV.int .i64) a0.c3) .none, .dl 1 (List.map (AV.int .u64) a0.c4) .none, .dl 1 (List.map (AV.int .u64) a0.c5) .none, .dl 1 (List.map (AV.int .u64) a0.c6) .none])) := f_o1
 simp only [EVA, reduceIte, reduceCtorEq, Nat.reduceLT, Nat.reduceLeDiff, Int.reduceEq, Int.reduceLT, Int.reduceLE, Nat.reduceMul, Int.reduceToNat, Nat.reduceAdd, f_o1]
 refine eop_alloc_go (H0 := H) ty41 rfl rfl hE ?_
 intro o3 H4 hE xo3 g_o3 f_o3 n_o3
 have ne_o1_o3 := n_o3 _ _ f_o1
 have f_o1 := xo3.2 _ _ f_o1
 have f_o3 : H4[o3]? = some (.cells ([.int .i64 0, .int .i64 0, .dl 0 [] .full, .dl 0 [] .full, .dl 0 [] .full, .dl 0 [] .full, .dl 0 [] .full])) := f_o3
 simp only [EVA, reduceIte, reduceCtorEq, Nat.reduceLT, Nat.reduceLeDiff, Int.reduceEq, Int.reduceLT, Int.reduceLE, Nat.reduceMul, Int.reduceToNat, Nat.reduceAdd, f_o1, f_o3]
 rcases ite_some hg with ⟨h5, hg⟩ | ⟨h5, hg⟩
 ·obtain ⟨h247, hg⟩ := guard_some hg
  refine AppE.mutGo (H0 := H) (AV.int .i64) (fun _ => rfl) a0.c2 (n := 17592186044416) ty22 rfl ty3 rfl rfl rfl (srcA_dl ty22 rfl) h5.2 h247 (by decide) (by decide) hE ?_
  intro o248 H249 hE xo248 g_o248 f_o248 n_o248
  have ne_o1_o248 := n_o248 _ _ f_o1
  have f_o1 := xo248.2 _ _ f_o1
  have ne_o3_o248 := n_o248 _ _ f_o3
  have f_o3 := xo248.2 _ _ f_o3
  simp only [EVA, reduceIte, reduceCtorEq, Nat.reduceLT, Nat.reduceLeDiff, Int.reduceEq, Int.reduceLT, Int.reduceLE, Nat.reduceMul, Int.reduceToNat, Nat.reduceAdd, f_o1, f_o3, f_o248]
  obtain ⟨h255, hg⟩ := guard_some hg
  refine AppE.goM (H0 := H) (AV.int .i64) ([] : List Int) a0.c3 (n := 17592186044416) ty22 rfl ty3 rfl rfl (by decide) (.dl 1 (List.map (AV.int .i64) a0.c3) .none) (wkD.refl _) (srcA_dl ty22 rfl) (.inl rfl) h255 (by decide) (by decide) hE (Free.full _ _) ?_
  intro tl250 H251 hE F252 p253 q254 l9
  have f_o1 := p253 _ _ (cnt _) f_o1
  have f_o3 := p253 _ _ (cnt _) f_o3
  have f_o248 := p253 _ _ (cnt _) f_o248
  simp only [EVA, reduceIte, reduceCtorEq, Nat.reduceLT, Nat.reduceLeDiff, Int.reduceEq, Int.reduceLT, Int.reduceLE, Nat.reduceMul, Int.reduceToNat, Nat.reduceAdd, f_o1, f_o3, f_o248]
  obtain ⟨h261, hg⟩ := guard_some hg
  refine AppE.goM (H0 := H) (AV.int .u64) ([] : List Int) a0.c4 (n := 17592186044416) ty27 rfl ty53 rfl rfl (by decide) (.dl 1 (List.map (AV.int .u64) a0.c4) .none) (wkD.refl _) (srcA_dl ty27 rfl) (.inl rfl) h261 (by decide) (by decide) hE (Free.full _ _) ?_
  intro tl256 H257 hE F258 p259 q260 l9
  have f_o1 := p259 _ _ (cnt _) f_o1
  have f_o3 := p259 _ _ (cnt _) f_o3
  have f_o248 := p259 _ _ (cnt _) f_o248
  obtain ⟨F252, D262⟩ := q260 _ F252 (tlNe.full _)
  simp only [EVA, reduceIte, reduceCtorEq, Nat.reduceLT, Nat.reduceLeDiff, Int.reduceEq, Int.reduceLT, Int.reduceLE, Nat.reduceMul, Int.reduceToNat, Nat.reduceAdd, f_o1, f_o3, f_o248]
  obtain ⟨h268, hg⟩ := guard_some hg
  refine AppE.goM (H0 := H) (AV.int .u64) ([] : List Int) a0.c5 (n := 17592186044416) ty27 rfl ty53 rfl rfl (by decide) (.dl 1 (List.map (AV.int .u64) a0.c5) .none) (wkD.refl _) (srcA_dl ty27 rfl) (.inl rfl) h268 (by decide) (by decide) hE (Free.full _ _) ?_
  intro tl263 H264 hE F265 p266 q267 l9
  have f_o1 := p266 _ _ (cnt _) f_o1
  have f_o3 := p266 _ _ (cnt _) f_o3
  have f_o248 := p266 _ _ (cnt _) f_o248
  obtain ⟨F252, D269⟩ := q267 _ F252 (tlNe.full _)
  obtain ⟨F258, D270⟩ := q267 _ F258 (tlNe.full _)
  simp only [EVA, reduceIte, reduceCtorEq, Nat.reduceLT, Nat.reduceLeDiff, Int.reduceEq, Int.reduceLT, Int.reduceLE, Nat.reduceMul, Int.reduceToNat, Nat.reduceAdd, f_o1, f_o3, f_o248]
  obtain ⟨h276, hg⟩ := guard_some hg
  refine AppE.goM (H0 := H) (AV.int .u64) ([] : List Int) a0.c6 (n := 17592186044416) ty27 rfl ty53 rfl rfl (by decide) (.dl 1 (List.map (AV.int .u64) a0.c6) .none) (wkD.refl _) (srcA_dl ty27 rfl) (.inl rfl) h276 (by decide) (by decide) hE (Free.full _ _) ?_
  intro tl271 H272 hE F273 p274 q275 l9
  have f_o1 := p274 _ _ (cnt _) f_o1
  have f_o3 := p274 _ _ (cnt _) f_o3
  have f_o248 := p274 _ _ (cnt _) f_o248
  obtain ⟨F252, D277⟩ := q275 _ F252 (tlNe.full _)
  obtain ⟨F258, D278⟩ := q275 _ F258 (tlNe.full _)
  obtain ⟨F265, D279⟩ := q275 _ F265 (tlNe.full _)
  simp only [EVA, reduceIte, reduceCtorEq, Nat.reduceLT, Nat.reduceLeDiff, Int.reduceEq, Int.reduceLT, Int.reduceLE, Nat.reduceMul, Int.reduceToNat, Nat.reduceAdd, f_o1, f_o3, f_o248]
  obtain ⟨v280, ch281, hg⟩ := bind_some hg
  refine ACall.wkA (args := [.int .i64 a1, .int .i64 9]) (c7 B w0 n a1 9 _ _ v280 ch281  ?_) (WkA.r (WkA.r WkA.nil))
  simp only [EVA, reduceIte, reduceCtorEq, Nat.reduceLT, Nat.reduceLeDiff, Int.reduceEq, Int.reduceLT, Int.reduceLE, Nat.reduceMul, Int.reduceToNat, Nat.reduceAdd, f_o1, f_o3, f_o248]
  rcases ite_some hg with ⟨h282, hg⟩ | ⟨h282, hg⟩
  ·refine Br.yes h282 ?_
   simp only [EVA, reduceIte, reduceCtorEq, Nat.reduceLT, Nat.reduceLeDiff, Int.reduceEq, Int.reduceLT, Int.reduceLE, Nat.reduceMul, Int.reduceToNat, Nat.reduceAdd, eq_true h282, f_o1, f_o3, f_o248]
   obtain ⟨v283, ch284, hg⟩ := bind_some hg
   refine ACall.wkA (args := [.int .i64 a2, .int .i64 4]) (c7 B w0 n a2 4 _ _ v283 ch284  ?_) (WkA.r (WkA.r WkA.nil))
   obtain ⟨h285, hg⟩ := guard_some hg
   have q286 : List.getD ([.int .i64 a2, .int .i64 (-1), .int .i64 4095, .int .i64 4096]) (Int.toNat v283) AV.undef = (AV.int .i64) (rd ([a2, (-1), 4095, 4096] : List Int) v283) := rd_map (l := ([a2, (-1), 4095, 4096] : List Int)) (i := v283) (AV.int .i64) ⟨h285.1, by simp only [List.length_cons, List.length_nil]; omega⟩
   simp only [EVA, reduceIte, reduceCtorEq, Nat.reduceLT, Nat.reduceLeDiff, Int.reduceEq, Int.reduceLT, Int.reduceLE, Nat.reduceMul, Int.reduceToNat, Nat.reduceAdd, eq_true h282, eq_true h285.1, eq_true h285.2, q286, f_o1, f_o3, f_o248]
   refine eop_store_go (H0 := H) (id := o1) (off := 0) (v := .int .i64 (rd ([a2, (-1), 4095, 4096] : List Int) v283)) rfl rfl f_o1 ty3 rfl rfl (Nat.le_of_ble_eq_true rfl) hE g_o1 ?_
   intro H287 hE f9_o1 p288 l9
   have F252 := F252.keep f_o1 p288
   have F258 := F258.keep f_o1 p288
   have F265 := F265.keep f_o1 p288
   have F273 := F273.keep f_o1 p288
   have f_o3 := p288 _ _ (Ne.symm ne_o1_o3) f_o3
   have f_o248 := p288 _ _ (Ne.symm ne_o1_o248) f_o248
   have f_o1 : H287[o1]? = some (.cells ([.int .i64 (rd ([a2, (-1), 4095, 4096] : List Int) v283), .int .i64 a0.c1, .dl 1 (List.map (AV.int .i64) a0.c2) .none, .dl 1 (List.map (AV.int .i64) a0.c3) .none, .dl 1 (List.map (AV.int .u64) a0.c4) .none, .dl 1 (List.map (AV.int .u64) a0.c5) .none, .dl 1 (List.map (AV.int .u64) a0.c6) .none])) := f9_o1
   simp only [EVA, reduceIte, reduceCtorEq, Nat.reduceLT, Nat.reduceLeDiff, Int.reduceEq, Int.reduceLT, Int.reduceLE, Nat.reduceMul, Int.reduceToNat, Nat.reduceAdd, eq_true h282, eq_true h285.1, eq_true h285.2, q286, f_o1, f_o3, f_o248]
   refine eop_store_go (H0 := H) (id := o3) (off := 0) (v := .agg [.int .i64 (rd ([a2, (-1), 4095, 4096] : List Int) v283), .int .i64 a0.c1, .sl 1 o248 0 a0.c2.length, .dl 1 (List.map (AV.int .i64) a0.c3) tl250, .dl 1 (List.map (AV.int .u64) a0.c4) tl256, .dl 1 (List.map (AV.int .u64) a0.c5) tl263, .dl 1 (List.map (AV.int .u64) a0.c6) tl271]) rfl rfl f_o3 ty41 rfl rfl (Nat.le_of_ble_eq_true rfl) hE g_o3 ?_
   intro H289 hE f9_o3 p290 l9
   have F252 := F252.keep f_o3 p290
   have F258 := F258.keep f_o3 p290
   have F265 := F265.keep f_o3 p290
   have F273 := F273.keep f_o3 p290
   have f_o1 := p290 _ _ ne_o1_o3 f_o1
   have f_o248 := p290 _ _ (Ne.symm ne_o3_o248) f_o248
   have f_o3 : H289[o3]? = some (.cells ([.int .i64 (rd ([a2, (-1), 4095, 4096] : List Int) v283), .int .i64 a0.c1, .sl 1 o248 0 a0.c2.length, .dl 1 (List.map (AV.int .i64) a0.c3) tl250, .dl 1 (List.map (AV.int .u64) a0.c4) tl256, .dl 1 (List.map (AV.int .u64) a0.c5) tl263, .dl 1 (List.map (AV.int .u64) a0.c6) tl271])) := f9_o3
   obtain ⟨h291, hg⟩ := guard_some hg
   simp only [EVA, reduceIte, reduceCtorEq, Nat.reduceLT, Nat.reduceLeDiff, Int.reduceEq, Int.reduceLT, Int.reduceLE, Nat.reduceMul, Int.reduceToNat, Nat.reduceAdd, rs19, eq_true h282, eq_true h285.1, eq_true h285.2, q286, f_o1, f_o3, f_o248]
   obtain rfl := Option.some.inj hg
   refine .inr ⟨_, 2, o248, a0.c2.length, _, _, rfl, rfl, f_o248, by simpa using h291, frz_map (AV.int .i64) (fun _ => rfl) _, (wkR.a (wkA.agg (Wk.r (Wk.r (Wk.r (Wk.cons (wkV.tail _ _ _) (Wk.cons (wkV.tail _ _ _) (Wk.cons (wkV.tail _ _ _) (Wk.cons (wkV.tail _ _ _) Wk.nil))))))))), ?_⟩
   rw [← List.map_take]
   exact hK _ (hE.set _ g_o248)
  ·refine Br.no h282 ?_
   simp only [EVA, reduceIte, reduceCtorEq, Nat.reduceLT, Nat.reduceLeDiff, Int.reduceEq, Int.reduceLT, Int.reduceLE, Nat.reduceMul, Int.reduceToNat, Nat.reduceAdd, eq_false h282, f_o1, f_o3, f_o248]
   rcases ite_some hg with ⟨h292, hg⟩ | ⟨h292, hg⟩
   ·refine Br.yes h292 ?_
    simp only [EVA, reduceIte, reduceCtorEq, Nat.reduceLT, Nat.reduceLeDiff, Int.reduceEq, Int.reduceLT, Int.reduceLE, Nat.reduceMul, Int.reduceToNat, Nat.reduceAdd, eq_false h282, eq_true h292, f_o1, f_o3, f_o248]
    obtain ⟨v293, ch294, hg⟩ := bind_some hg
    refine ACall.wkA (args := [.int .i64 a2, .int .i64 4]) (c7 B w0 n a2 4 _ _ v293 ch294  ?_) (WkA.r (WkA.r WkA.nil))
    obtain ⟨h295, hg⟩ := guard_some hg
    have q296 : List.getD ([.int .i64 a2, .int .i64 (-1), .int .i64 1099511627776, .int .i64 1099511627777]) (Int.toNat v293) AV.undef = (AV.int .i64) (rd ([a2, (-1), 1099511627776, 1099511627777] : List Int) v293) := rd_map (l := ([a2, (-1), 1099511627776, 1099511627777] : List Int)) (i := v293) (AV.int .i64) ⟨h295.1, by simp only [List.length_cons, List.length_nil]; omega⟩
    simp only [EVA, reduceIte, reduceCtorEq, Nat.reduceLT, Nat.reduceLeDiff, Int.reduceEq, Int.reduceLT, Int.reduceLE, Nat.reduceMul, Int.reduceToNat, Nat.reduceAdd, eq_false h282, eq_true h292, eq_true h295.1, eq_true h295.2, q296, f_o1, f_o3, f_o248]
    refine eop_store_go (H0 := H) (id := o1) (off := 1) (v := .int .i64 (rd ([a2, (-1), 1099511627776, 1099511627777] : List Int) v293)) rfl rfl f_o1 ty3 rfl rfl (Nat.le_of_ble_eq_true rfl) hE g_o1 ?_
    intro H297 hE f9_o1 p298 l9
    have F252 := F252.keep f_o1 p298
    have F258 := F258.keep f_o1 p298
    have F265 := F265.keep f_o1 p298
    have F273 := F273.keep f_o1 p298
    have f_o3 := p298 _ _ (Ne.symm ne_o1_o3) f_o3
    have f_o248 := p298 _ _ (Ne.symm ne_o1_o248) f_o248
    have f_o1 : H297[o1]? = some (.cells ([.int .i64 a0.c0, .int .i64 (rd ([a2, (-1), 1099511627776, 1099511627777] : List Int) v293), .dl 1 (List.map (AV.int .i64) a0.c2) .none, .dl 1 (List.map (AV.int .i64) a0.c3) .none, .dl 1 (List.map (AV.int .u64) a0.c4) .none, .dl 1 (List.map (AV.int .u64) a0.c5) .none, .dl 1 (List.map (AV.int .u64) a0.c6) .none])) := f9_o1
    simp only [EVA, reduceIte, reduceCtorEq, Nat.reduceLT, Nat.reduceLeDiff, Int.reduceEq, Int.reduceLT, Int.reduceLE, Nat.reduceMul, Int.reduceToNat, Nat.reduceAdd, eq_false h282, eq_true h292, eq_true h295.1, eq_true h295.2, q296, f_o1, f_o3, f_o248]
    refine eop_store_go (H0 := H) (id := o3) (off := 0) (v := .agg [.int .i64 a0.c0, .int .i64 (rd ([a2, (-1), 1099511627776, 1099511627777] : List Int) v293), .sl 1 o248 0 a0.c2.length, .dl 1 (List.map (AV.int .i64) a0.c3) tl250, .dl 1 (List.map (AV.int .u64) a0.c4) tl256, .dl 1 (List.map (AV.int .u64) a0.c5) tl263, .dl 1 (List.map (AV.int .u64) a0.c6) tl271]) rfl rfl f_o3 ty41 rfl rfl (Nat.le_of_ble_eq_true rfl) hE g_o3 ?_
    intro H299 hE f9_o3 p300 l9
    have F252 := F252.keep f_o3 p300
    have F258 := F258.keep f_o3 p300
    have F265 := F265.keep f_o3 p300
    have F273 := F273.keep f_o3 p300
    have f_o1 := p300 _ _ ne_o1_o3 f_o1
    have f_o248 := p300 _ _ (Ne.symm ne_o3_o248) f_o248
    have f_o3 : H299[o3]? = some (.cells ([.int .i64 a0.c0, .int .i64 (rd ([a2, (-1), 1099511627776, 1099511627777] : List Int) v293), .sl 1 o248 0 a0.c2.length, .dl 1 (List.map (AV.int .i64) a0.c3) tl250, .dl 1 (List.map (AV.int .u64) a0.c4) tl256, .dl 1 (List.map (AV.int .u64) a0.c5) tl263, .dl 1 (List.map (AV.int .u64) a0.c6) tl271])) := f9_o3
    obtain ⟨h301, hg⟩ := guard_some hg
    simp only [EVA, reduceIte, reduceCtorEq, Nat.reduceLT, Nat.reduceLeDiff, Int.reduceEq, Int.reduceLT, Int.reduceLE, Nat.reduceMul, Int.reduceToNat, Nat.reduceAdd, rs19, eq_false h282, eq_true h292, eq_true h295.1, eq_true h295.2, q296, f_o1, f_o3, f_o248]
    obtain rfl := Option.some.inj hg
    refine .inr ⟨_, 2, o248, a0.c2.length, _, _, rfl, rfl, f_o248, by simpa using h301, frz_map (AV.int .i64) (fun _ => rfl) _, (wkR.a (wkA.agg (Wk.r (Wk.r (Wk.r (Wk.cons (wkV.tail _ _ _) (Wk.cons (wkV.tail _ _ _) (Wk.cons (wkV.tail _ _ _) (Wk.cons (wkV.tail _ _ _) Wk.nil))))))))), ?_⟩
    rw [← List.map_take]
    exact hK _ (hE.set _ g_o248)
   ·refine Br.no h292 ?_
    simp only [EVA, reduceIte, reduceCtorEq, Nat.reduceLT, Nat.reduceLeDiff, Int.reduceEq, Int.reduceLT, Int.reduceLE, Nat.reduceMul, Int.reduceToNat, Nat.reduceAdd, eq_false h282, eq_false h292, f_o1, f_o3, f_o248]
    rcases ite_some hg with ⟨h302, hg⟩ | ⟨h302, hg⟩
    ·refine Br.yes h302 ?_
     cases hg
    ·refine Br.no h302 ?_
     simp only [EVA, reduceIte, reduceCtorEq, Nat.reduceLT, Nat.reduceLeDiff, Int.reduceEq, Int.reduceLT, Int.reduceLE, Nat.reduceMul, Int.reduceToNat, Nat.reduceAdd, eq_false h282, eq_false h292, eq_false h302, f_o1, f_o3, f_o248]
     rcases ite_some hg with ⟨h303, hg⟩ | ⟨h303, hg⟩
     ·refine Br.yes h303 ?_
      simp only [EVA, reduceIte, reduceCtorEq, Nat.reduceLT, Nat.reduceLeDiff, Int.reduceEq, Int.reduceLT, Int.reduceLE, Nat.reduceMul, Int.reduceToNat, Nat.reduceAdd, eq_false h282, eq_false h292, eq_false h302, eq_true h303, f_o1, f_o3, f_o248]
      obtain ⟨h309, hg⟩ := guard_some hg
      refine AppE.goM (H0 := H) (AV.int .i64) a0.c3 ([a2] : List Int) (n := 17592186044416) ty22 rfl ty3 rfl rfl (by decide) (.dl 1 [.int .i64 a2] .full) (wkD.refl _) (srcA_dl ty22 rfl) (.inl rfl) h309 (by decide) (by decide) hE F252 ?_
      intro tl304 H305 hE F306 p307 q308 l9
      have f_o1 := p307 _ _ (cnt _) f_o1
      have f_o3 := p307 _ _ (cnt _) f_o3
      have f_o248 := p307 _ _ (cnt _) f_o248
      obtain ⟨F258, D310⟩ := q308 _ F258 D262.symm
      obtain ⟨F265, D311⟩ := q308 _ F265 D269.symm
      obtain ⟨F273, D312⟩ := q308 _ F273 D277.symm
      simp only [EVA, reduceIte, reduceCtorEq, Nat.reduceLT, Nat.reduceLeDiff, Int.reduceEq, Int.reduceLT, Int.reduceLE, Nat.reduceMul, Int.reduceToNat, Nat.reduceAdd, eq_false h282, eq_false h292, eq_false h302, eq_true h303, f_o1, f_o3, f_o248]
      refine eop_store_go (H0 := H) (id := o3) (off := 0) (v := .agg [.int .i64 a0.c0, .int .i64 a0.c1, .sl 1 o248 0 a0.c2.length, .dl 1 (List.map (AV.int .i64) (a0.c3 ++ ([a2] : List Int))) tl304, .dl 1 (List.map (AV.int .u64) a0.c4) tl256, .dl 1 (List.map (AV.int .u64) a0.c5) tl263, .dl 1 (List.map (AV.int .u64) a0.c6) tl271]) rfl rfl f_o3 ty41 rfl rfl (Nat.le_of_ble_eq_true rfl) hE g_o3 ?_
      intro H313 hE f9_o3 p314 l9
      have F258 := F258.keep f_o3 p314
      have F265 := F265.keep f_o3 p314
      have F273 := F273.keep f_o3 p314
      have F306 := F306.keep f_o3 p314
      have f_o1 := p314 _ _ ne_o1_o3 f_o1
      have f_o248 := p314 _ _ (Ne.symm ne_o3_o248) f_o248
      have f_o3 : H313[o3]? = some (.cells ([.int .i64 a0.c0, .int .i64 a0.c1, .sl 1 o248 0 a0.c2.length, .dl 1 (List.map (AV.int .i64) (a0.c3 ++ ([a2] : List Int))) tl304, .dl 1 (List.map (AV.int .u64) a0.c4) tl256, .dl 1 (List.map (AV.int .u64) a0.c5) tl263, .dl 1 (List.map (AV.int .u64) a0.c6) tl271])) := f9_o3
      obtain ⟨h315, hg⟩ := guard_some hg
      simp only [EVA, reduceIte, reduceCtorEq, Nat.reduceLT, Nat.reduceLeDiff, Int.reduceEq, Int.reduceLT, Int.reduceLE, Nat.reduceMul, Int.reduceToNat, Nat.reduceAdd, rs19, eq_false h282, eq_false h292, eq_false h302, eq_true h303, f_o1, f_o3, f_o248]
      obtain rfl := Option.some.inj hg
      refine .inr ⟨_, 2, o248, a0.c2.length, _, _, rfl, rfl, f_o248, by simpa using h315, frz_map (AV.int .i64) (fun _ => rfl) _, (wkR.a (wkA.agg (Wk.r (Wk.r (Wk.r (Wk.cons (wkV.tail _ _ _) (Wk.cons (wkV.tail _ _ _) (Wk.cons (wkV.tail _ _ _) (Wk.cons (wkV.tail _ _ _) Wk.nil))))))))), ?_⟩
      rw [← List.map_take]
      exact hK _ (hE.set _ g_o248)
     ·refine Br.no h303 ?_
      simp only [EVA, reduceIte, reduceCtorEq, Nat.reduceLT, Nat.reduceLeDiff, Int.reduceEq, Int.reduceLT, Int.reduceLE, Nat.reduceMul, Int.reduceToNat, Nat.reduceAdd, eq_false h282, eq_false h292, eq_false h302, eq_false h303, f_o1, f_o3, f_o248]
      rcases ite_some hg with ⟨h316, hg⟩ | ⟨h316, hg⟩
      ·refine Br.yes h316 ?_
       simp only [EVA, reduceIte, reduceCtorEq, Nat.reduceLT, Nat.reduceLeDiff, Int.reduceEq, Int.reduceLT, Int.reduceLE, Nat.reduceMul, Int.reduceToNat, Nat.reduceAdd, eq_false h282, eq_false h292, eq_false h302, eq_false h303, eq_true h316, f_o1, f_o3, f_o248]
       obtain ⟨v317, ch318, hg⟩ := bind_some hg
       refine ACall.wkA (args := [.int .i64 a2, .int .i64 30]) (c7 B w0 n a2 30 _ _ v317 ch318  ?_) (WkA.r (WkA.r WkA.nil))
       simp only [EVA, reduceIte, reduceCtorEq, Nat.reduceLT, Nat.reduceLeDiff, Int.reduceEq, Int.reduceLT, Int.reduceLE, Nat.reduceMul, Int.reduceToNat, Nat.reduceAdd, eq_false h282, eq_false h292, eq_false h302, eq_false h303, eq_true h316, f_o1, f_o3, f_o248]
       obtain ⟨h324, hg⟩ := guard_some hg
       refine AppE.goM (H0 := H) (AV.int .u64) a0.c4 ([IntKind.u64.wrap v317] : List Int) (n := 17592186044416) ty27 rfl ty53 rfl rfl (by decide) (.dl 1 [.int .u64 (IntKind.u64.wrap v317)] .full) (wkD.refl _) (srcA_dl ty27 rfl) (.inl rfl) h324 (by decide) (by decide) hE F258 ?_
       intro tl319 H320 hE F321 p322 q323 l9
       have f_o1 := p322 _ _ (cnt _) f_o1
       have f_o3 := p322 _ _ (cnt _) f_o3
       have f_o248 := p322 _ _ (cnt _) f_o248
       obtain ⟨F252, D325⟩ := q323 _ F252 D262
       obtain ⟨F265, D326⟩ := q323 _ F265 D270.symm
       obtain ⟨F273, D327⟩ := q323 _ F273 D278.symm
       simp only [EVA, reduceIte, reduceCtorEq, Nat.reduceLT, Nat.reduceLeDiff, Int.reduceEq, Int.reduceLT, Int.reduceLE, Nat.reduceMul, Int.reduceToNat, Nat.reduceAdd, eq_false h282, eq_false h292, eq_false h302, eq_false h303, eq_true h316, f_o1, f_o3, f_o248]
       refine eop_store_go (H0 := H) (id := o3) (off := 0) (v := .agg [.int .i64 a0.c0, .int .i64 a0.c1, .sl 1 o248 0 a0.c2.length, .dl 1 (List.map (AV.int .i64) a0.c3) tl250, .dl 1 (List.map (AV.int .u64) (a0.c4 ++ ([IntKind.u64.wrap v317] : List Int))) tl319, .dl 1 (List.map (AV.int .u64) a0.c5) tl263, .dl 1 (List.map (AV.int .u64) a0.c6) tl271]) rfl rfl f_o3 ty41 rfl rfl (Nat.le_of_ble_eq_true rfl) hE g_o3 ?_
       intro H328 hE f9_o3 p329 l9
       have F252 := F252.keep f_o3 p329
       have F265 := F265.keep f_o3 p329
       have F273 := F273.keep f_o3 p329
       have F321 := F321.keep f_o3 p329
       have f_o1 := p329 _ _ ne_o1_o3 f_o1
       have f_o248 := p329 _ _ (Ne.symm ne_o3_o248) f_o248
       have f_o3 : H328[o3]? = some (.cells ([.int .i64 a0.c0, .int .i64 a0.c1, .sl 1 o248 0 a0.c2.length, .dl 1 (List.map (AV.int .i64) a0.c3) tl250, .dl 1 (List.map (AV.int .u64) (a0.c4 ++ ([IntKind.u64.wrap v317] : List Int))) tl319, .dl 1 (List.map (AV.int .u64) a0.c5) tl263, .dl 1 (List.map (AV.int .u64) a0.c6) tl271])) := f9_o3
       obtain ⟨h330, hg⟩ := guard_some hg
       simp only [EVA, reduceIte, reduceCtorEq, Nat.reduceLT, Nat.reduceLeDiff, Int.reduceEq, Int.reduceLT, Int.reduceLE, Nat.reduceMul, Int.reduceToNat, Nat.reduceAdd, rs19, eq_false h282, eq_false h292, eq_false h302, eq_false h303, eq_true h316, f_o1, f_o3, f_o248]
       obtain rfl := Option.some.inj hg
       refine .inr ⟨_, 2, o248, a0.c2.length, _, _, rfl, rfl, f_o248, by simpa using h330, frz_map (AV.int .i64) (fun _ => rfl) _, (wkR.a (wkA.agg (Wk.r (Wk.r (Wk.r (Wk.cons (wkV.tail _ _ _) (Wk.cons (wkV.tail _ _ _) (Wk.cons (wkV.tail _ _ _) (Wk.cons (wkV.tail _ _ _) Wk.nil))))))))), ?_⟩
       rw [← List.map_take]
       exact hK _ (hE.set _ g_o248)
      ·refine Br.no h316 ?_
       simp only [EVA, reduceIte, reduceCtorEq, Nat.reduceLT, Nat.reduceLeDiff, Int.reduceEq, Int.reduceLT, Int.reduceLE, Nat.reduceMul, Int.reduceToNat, Nat.reduceAdd, eq_false h282, eq_false h292, eq_false h302, eq_false h303, eq_false h316, f_o1, f_o3, f_o248]
       rcases ite_some hg with ⟨h331, hg⟩ | ⟨h331, hg⟩
       ·refine Br.yes h331 ?_
        simp only [EVA, reduceIte, reduceCtorEq, Nat.reduceLT, Nat.reduceLeDiff, Int.reduceEq, Int.reduceLT, Int.reduceLE, Nat.reduceMul, Int.reduceToNat, Nat.reduceAdd, eq_false h282, eq_false h292, eq_false h302, eq_false h303, eq_false h316, eq_true h331, f_o1, f_o3, f_o248]
        obtain ⟨h337, hg⟩ := guard_some hg
        refine AppE.goM (H0 := H) (AV.int .u64) a0.c5 ([1] : List Int) (n := 17592186044416) ty27 rfl ty53 rfl rfl (by decide) (.dl 1 [.int .u64 1] .full) (wkD.refl _) (srcA_dl ty27 rfl) (.inl rfl) h337 (by decide) (by decide) hE F265 ?_
        intro tl332 H333 hE F334 p335 q336 l9
        have f_o1 := p335 _ _ (cnt _) f_o1
        have f_o3 := p335 _ _ (cnt _) f_o3
        have f_o248 := p335 _ _ (cnt _) f_o248
        obtain ⟨F252, D338⟩ := q336 _ F252 D269
        obtain ⟨F258, D339⟩ := q336 _ F258 D270
        obtain ⟨F273, D340⟩ := q336 _ F273 D279.symm
        simp only [EVA, reduceIte, reduceCtorEq, Nat.reduceLT, Nat.reduceLeDiff, Int.reduceEq, Int.reduceLT, Int.reduceLE, Nat.reduceMul, Int.reduceToNat, Nat.reduceAdd, eq_false h282, eq_false h292, eq_false h302, eq_false h303, eq_false h316, eq_true h331, f_o1, f_o3, f_o248]
        refine eop_store_go (H0 := H) (id := o3) (off := 0) (v := .agg [.int .i64 a0.c0, .int .i64 a0.c1, .sl 1 o248 0 a0.c2.length, .dl 1 (List.map (AV.int .i64) a0.c3) tl250, .dl 1 (List.map (AV.int .u64) a0.c4) tl256, .dl 1 (List.map (AV.int .u64) (a0.c5 ++ ([1] : List Int))) tl332, .dl 1 (List.map (AV.int .u64) a0.c6) tl271]) rfl rfl f_o3 ty41 rfl rfl (Nat.le_of_ble_eq_true rfl) hE g_o3 ?_
        intro H341 hE f9_o3 p342 l9
        have F252 := F252.keep f_o3 p342
        have F258 := F258.keep f_o3 p342
        have F273 := F273.keep f_o3 p342
        have F334 := F334.keep f_o3 p342
        have f_o1 := p342 _ _ ne_o1_o3 f_o1
        have f_o248 := p342 _ _ (Ne.symm ne_o3_o248) f_o248
        have f_o3 : H341[o3]? = some (.cells ([.int .i64 a0.c0, .int .i64 a0.c1, .sl 1 o248 0 a0.c2.length, .dl 1 (List.map (AV.int .i64) a0.c3) tl250, .dl 1 (List.map (AV.int .u64) a0.c4) tl256, .dl 1 (List.map (AV.int .u64) (a0.c5 ++ ([1] : List Int))) tl332, .dl 1 (List.map (AV.int .u64) a0.c6) tl271])) := f9_o3
        obtain ⟨h343, hg⟩ := guard_some hg
        simp only [EVA, reduceIte, reduceCtorEq, Nat.reduceLT, Nat.reduceLeDiff, Int.reduceEq, Int.reduceLT, Int.reduceLE, Nat.reduceMul, Int.reduceToNat, Nat.reduceAdd, rs19, eq_false h282, eq_false h292, eq_false h302, eq_false h303, eq_false h316, eq_true h331, f_o1, f_o3, f_o248]
        obtain rfl := Option.some.inj hg
        refine .inr ⟨_, 2, o248, a0.c2.length, _, _, rfl, rfl, f_o248, by simpa using h343, frz_map (AV.int .i64) (fun _ => rfl) _, (wkR.a (wkA.agg (Wk.r (Wk.r (Wk.r (Wk.cons (wkV.tail _ _ _) (Wk.cons (wkV.tail _ _ _) (Wk.cons (wkV.tail _ _ _) (Wk.cons (wkV.tail _ _ _) Wk.nil))))))))), ?_⟩
        rw [← List.map_take]
        exact hK _ (hE.set _ g_o248)
       ·refine Br.no h331 ?_
        simp only [EVA, reduceIte, reduceCtorEq, Nat.reduceLT, Nat.reduceLeDiff, Int.reduceEq, Int.reduceLT, Int.reduceLE, Nat.reduceMul, Int.reduceToNat, Nat.reduceAdd, eq_false h282, eq_false h292, eq_false h302, eq_false h303, eq_false h316, eq_false h331, f_o1, f_o3, f_o248]
        rcases ite_some hg with ⟨h344, hg⟩ | ⟨h344, hg⟩
        ·refine Br.yes h344 ?_
         simp only [EVA, reduceIte, reduceCtorEq, Nat.reduceLT, Nat.reduceLeDiff, Int.reduceEq, Int.reduceLT, Int.reduceLE, Nat.reduceMul, Int.reduceToNat, Nat.reduceAdd, eq_false h282, eq_false h292, eq_false h302, eq_false h303, eq_false h316, eq_false h331, eq_true h344, f_o1, f_o3, f_o248]
         obtain ⟨h350, hg⟩ := guard_some hg
         refine AppE.goM (H0 := H) (AV.int .u64) a0.c6 ([1] : List Int) (n := 17592186044416) ty27 rfl ty53 rfl rfl (by decide) (.dl 1 [.int .u64 1] .full) (wkD.refl _) (srcA_dl ty27 rfl) (.inl rfl) h350 (by decide) (by decide) hE F273 ?_
         intro tl345 H346 hE F347 p348 q349 l9
         have f_o1 := p348 _ _ (cnt _) f_o1
         have f_o3 := p348 _ _ (cnt _) f_o3
         have f_o248 := p348 _ _ (cnt _) f_o248
         obtain ⟨F252, D351⟩ := q349 _ F252 D277
         obtain ⟨F258, D352⟩ := q349 _ F258 D278
         obtain ⟨F265, D353⟩ := q349 _ F265 D279
         simp only [EVA, reduceIte, reduceCtorEq, Nat.reduceLT, Nat.reduceLeDiff, Int.reduceEq, Int.reduceLT, Int.reduceLE, Nat.reduceMul, Int.reduceToNat, Nat.reduceAdd, eq_false h282, eq_false h292, eq_false h302, eq_false h303, eq_false h316, eq_false h331, eq_true h344, f_o1, f_o3, f_o248]
         refine eop_store_go (H0 := H) (id := o3) (off := 0) (v := .agg [.int .i64 a0.c0, .int .i64 a0.c1, .sl 1 o248 0 a0.c2.length, .dl 1 (List.map (AV.int .i64) a0.c3) tl250, .dl 1 (List.map (AV.int .u64) a0.c4) tl256, .dl 1 (List.map (AV.int .u64) a0.c5) tl263, .dl 1 (List.map (AV.int .u64) (a0.c6 ++ ([1] : List Int))) tl345]) rfl rfl f_o3 ty41 rfl rfl (Nat.le_of_ble_eq_true rfl) hE g_o3 ?_
         intro H354 hE f9_o3 p355 l9
         have F252 := F252.keep f_o3 p355
         have F258 := F258.keep f_o3 p355
         have F265 := F265.keep f_o3 p355
         have F347 := F347.keep f_o3 p355
         have f_o1 := p355 _ _ ne_o1_o3 f_o1
         have f_o248 := p355 _ _ (Ne.symm ne_o3_o248) f_o248
         have f_o3 : H354[o3]? = some (.cells ([.int .i64 a0.c0, .int .i64 a0.c1, .sl 1 o248 0 a0.c2.length, .dl 1 (List.map (AV.int .i64) a0.c3) tl250, .dl 1 (List.map (AV.int .u64) a0.c4) tl256, .dl 1 (List.map (AV.int .u64) a0.c5) tl263, .dl 1 (List.map (AV.int .u64) (a0.c6 ++ ([1] : List Int))) tl345])) := f9_o3
         obtain ⟨h356, hg⟩ := guard_some hg
         simp only [EVA, reduceIte, reduceCtorEq, Nat.reduceLT, Nat.reduceLeDiff, Int.reduceEq, Int.reduceLT, Int.reduceLE, Nat.reduceMul, Int.reduceToNat, Nat.reduceAdd, rs19, eq_false h282, eq_false h292, eq_false h302, eq_false h303, eq_false h316, eq_false h331, eq_true h344, f_o1, f_o3, f_o248]
         obtain rfl := Option.some.inj hg
         refine .inr ⟨_, 2, o248, a0.c2.length, _, _, rfl, rfl, f_o248, by simpa using h356, frz_map (AV.int .i64) (fun _ => rfl) _, (wkR.a (wkA.agg (Wk.r (Wk.r (Wk.r (Wk.cons (wkV.tail _ _ _) (Wk.cons (wkV.tail _ _ _) (Wk.cons (wkV.tail _ _ _) (Wk.cons (wkV.tail _ _ _) Wk.nil))))))))), ?_⟩
         rw [← List.map_take]
         exact hK _ (hE.set _ g_o248)
        ·refine Br.no h344 ?_
         simp only [EVA, reduceIte, reduceCtorEq, Nat.reduceLT, Nat.reduceLeDiff, Int.reduceEq, Int.reduceLT, Int.reduceLE, Nat.reduceMul, Int.reduceToNat, Nat.reduceAdd, eq_false h282, eq_false h292, eq_false h302, eq_false h303, eq_false h316, eq_false h331, eq_false h344, f_o1, f_o3, f_o248]
         rcases ite_some hg with ⟨h357, hg⟩ | ⟨h357, hg⟩
         ·refine Br.yes h357 ?_
          simp only [EVA, reduceIte, reduceCtorEq, Nat.reduceLT, Nat.reduceLeDiff, Int.reduceEq, Int.reduceLT, Int.reduceLE, Nat.reduceMul, Int.reduceToNat, Nat.reduceAdd, eq_false h282, eq_false h292, eq_false h302, eq_false h303, eq_false h316, eq_false h331, eq_false h344, eq_true h357, f_o1, f_o3, f_o248]
          rcases ite_some hg with ⟨h358, hg⟩ | ⟨h358, hg⟩
          ·refine Br.yes h358 ?_
           obtain ⟨h359, hg⟩ := guard_some hg
           have q360 : List.getD (List.map (AV.int .u64) a0.c6) 0 AV.undef = (AV.int .u64) (rd a0.c6 0) := rd_map (l := a0.c6) (i := 0) (AV.int .u64) h359
           obtain ⟨h361, hg⟩ := guard_some hg
           have q362 : List.getD (List.map (AV.int .u64) a0.c6) 0 AV.undef = (AV.int .u64) (rd a0.c6 0) := rd_map (l := a0.c6) (i := 0) (AV.int .u64) h361
           cases hg
          ·refine Br.no h358 ?_
           simp only [EVA, reduceIte, reduceCtorEq, Nat.reduceLT, Nat.reduceLeDiff, Int.reduceEq, Int.reduceLT, Int.reduceLE, Nat.reduceMul, Int.reduceToNat, Nat.reduceAdd, eq_false h282, eq_false h292, eq_false h302, eq_false h303, eq_false h316, eq_false h331, eq_false h344, eq_true h357, eq_false h358, f_o1, f_o3, f_o248]
           refine eop_store_go (H0 := H) (id := o3) (off := 0) (v := .agg [.int .i64 a0.c0, .int .i64 a0.c1, .sl 1 o248 0 a0.c2.length, .dl 1 (List.map (AV.int .i64) a0.c3) tl250, .dl 1 (List.map (AV.int .u64) a0.c4) tl256, .dl 1 (List.map (AV.int .u64) a0.c5) tl263, .dl 1 (List.map (AV.int .u64) a0.c6) tl271]) rfl rfl f_o3 ty41 rfl rfl (Nat.le_of_ble_eq_true rfl) hE g_o3 ?_
           intro H363 hE f9_o3 p364 l9
           have F252 := F252.keep f_o3 p364
           have F258 := F258.keep f_o3 p364
           have F265 := F265.keep f_o3 p364
           have F273 := F273.keep f_o3 p364
           have f_o1 := p364 _ _ ne_o1_o3 f_o1
           have f_o248 := p364 _ _ (Ne.symm ne_o3_o248) f_o248
           have f_o3 : H363[o3]? = some (.cells ([.int .i64 a0.c0, .int .i64 a0.c1, .sl 1 o248 0 a0.c2.length, .dl 1 (List.map (AV.int .i64) a0.c3) tl250, .dl 1 (List.map (AV.int .u64) a0.c4) tl256, .dl 1 (List.map (AV.int .u64) a0.c5) tl263, .dl 1 (List.map (AV.int .u64) a0.c6) tl271])) := f9_o3
           obtain ⟨h365, hg⟩ := guard_some hg
           simp only [EVA, reduceIte, reduceCtorEq, Nat.reduceLT, Nat.reduceLeDiff, Int.reduceEq, Int.reduceLT, Int.reduceLE, Nat.reduceMul, Int.reduceToNat, Nat.reduceAdd, rs19, eq_false h282, eq_false h292, eq_false h302, eq_false h303, eq_false h316, eq_false h331, eq_false h344, eq_true h357, eq_false h358, f_o1, f_o3, f_o248]
           obtain rfl := Option.some.inj hg
           refine .inr ⟨_, 2, o248, a0.c2.length, _, _, rfl, rfl, f_o248, by simpa using h365, frz_map (AV.int .i64) (fun _ => rfl) _, (wkR.a (wkA.agg (Wk.r (Wk.r (Wk.r (Wk.cons (wkV.tail _ _ _) (Wk.cons (wkV.tail _ _ _) (Wk.cons (wkV.tail _ _ _) (Wk.cons (wkV.tail _ _ _) Wk.nil))))))))), ?_⟩
           rw [← List.map_take]
           exact hK _ (hE.set _ g_o248)
         ·refine Br.no h357 ?_
          simp only [EVA, reduceIte, reduceCtorEq, Nat.reduceLT, Nat.reduceLeDiff, Int.reduceEq, Int.reduceLT, Int.reduceLE, Nat.reduceMul, Int.reduceToNat, Nat.reduceAdd, eq_false h282, eq_false h292, eq_false h302, eq_false h303, eq_false h316, eq_false h331, eq_false h344, eq_false h357, f_o1, f_o3, f_o248]
          rcases ite_some hg with ⟨h366, hg⟩ | ⟨h366, hg⟩
          ·refine Br.yes h366 ?_
           simp only [EVA, reduceIte, reduceCtorEq, Nat.reduceLT, Nat.reduceLeDiff, Int.reduceEq, Int.reduceLT, Int.reduceLE, Nat.reduceMul, Int.reduceToNat, Nat.reduceAdd, eq_false h282, eq_false h292, eq_false h302, eq_false h303, eq_false h316, eq_false h331, eq_false h344, eq_false h357, eq_true h366, f_o1, f_o3, f_o248]
           rcases ite_some hg with ⟨h367, hg⟩ | ⟨h367, hg⟩
           ·refine Br.yes h367 ?_
            obtain ⟨h368, hg⟩ := guard_some hg
            simp only [EVA, reduceIte, reduceCtorEq, Nat.reduceLT, Nat.reduceLeDiff, Int.reduceEq, Int.reduceLT, Int.reduceLE, Nat.reduceMul, Int.reduceToNat, Nat.reduceAdd, eq_false h282, eq_false h292, eq_false h302, eq_false h303, eq_false h316, eq_false h331, eq_false h344, eq_false h357, eq_true h366, eq_true h367, eq_true h368.1, eq_true h368.2, f_o1, f_o3, f_o248]
            obtain ⟨h371, hg⟩ := guard_some hg
            refine eop_storeL_go (H0 := H) (id := o248) (off := 0) (AV.int .i64) (l := a0.c2) (v := a2) rfl rfl f_o248 ty3 rfl rfl rfl h371 hE g_o248 ?_
            intro H369 hE f9_o248 p370 l9
            have F252 := F252.keep f_o248 p370
            have F258 := F258.keep f_o248 p370
            have F265 := F265.keep f_o248 p370
            have F273 := F273.keep f_o248 p370
            have f_o1 := p370 _ _ ne_o1_o248 f_o1
            have f_o3 := p370 _ _ ne_o3_o248 f_o3
            have f_o248 : H369[o248]? = some (.cells (List.map (AV.int .i64) (List.set a0.c2 0 a2))) := f9_o248
            simp only [EVA, reduceIte, reduceCtorEq, Nat.reduceLT, Nat.reduceLeDiff, Int.reduceEq, Int.reduceLT, Int.reduceLE, Nat.reduceMul, Int.reduceToNat, Nat.reduceAdd, eq_false h282, eq_false h292, eq_false h302, eq_false h303, eq_false h316, eq_false h331, eq_false h344, eq_false h357, eq_true h366, eq_true h367, eq_true h368.1, eq_true h368.2, f_o1, f_o3, f_o248]
            refine eop_store_go (H0 := H) (id := o3) (off := 0) (v := .agg [.int .i64 a0.c0, .int .i64 a0.c1, .sl 1 o248 0 a0.c2.length, .dl 1 (List.map (AV.int .i64) a0.c3) tl250, .dl 1 (List.map (AV.int .u64) a0.c4) tl256, .dl 1 (List.map (AV.int .u64) a0.c5) tl263, .dl 1 (List.map (AV.int .u64) a0.c6) tl271]) rfl rfl f_o3 ty41 rfl rfl (Nat.le_of_ble_eq_true rfl) hE g_o3 ?_
            intro H372 hE f9_o3 p373 l9
            have F252 := F252.keep f_o3 p373
            have F258 := F258.keep f_o3 p373
            have F265 := F265.keep f_o3 p373
            have F273 := F273.keep f_o3 p373
            have f_o1 := p373 _ _ ne_o1_o3 f_o1
            have f_o248 := p373 _ _ (Ne.symm ne_o3_o248) f_o248
            have f_o3 : H372[o3]? = some (.cells ([.int .i64 a0.c0, .int .i64 a0.c1, .sl 1 o248 0 a0.c2.length, .dl 1 (List.map (AV.int .i64) a0.c3) tl250, .dl 1 (List.map (AV.int .u64) a0.c4) tl256, .dl 1 (List.map (AV.int .u64) a0.c5) tl263, .dl 1 (List.map (AV.int .u64) a0.c6) tl271])) := f9_o3
            obtain ⟨h374, hg⟩ := guard_some hg
            simp only [EVA, reduceIte, reduceCtorEq, Nat.reduceLT, Nat.reduceLeDiff, Int.reduceEq, Int.reduceLT, Int.reduceLE, Nat.reduceMul, Int.reduceToNat, Nat.reduceAdd, rs19, eq_false h282, eq_false h292, eq_false h302, eq_false h303, eq_false h316, eq_false h331, eq_false h344, eq_false h357, eq_true h366, eq_true h367, eq_true h368.1, eq_true h368.2, f_o1, f_o3, f_o248]
            obtain rfl := Option.some.inj hg
            refine .inr ⟨_, 2, o248, a0.c2.length, _, _, rfl, rfl, f_o248, by simpa using h374, frz_map (AV.int .i64) (fun _ => rfl) _, (wkR.a (wkA.agg (Wk.r (Wk.r (Wk.r (Wk.cons (wkV.tail _ _ _) (Wk.cons (wkV.tail _ _ _) (Wk.cons (wkV.tail _ _ _) (Wk.cons (wkV.tail _ _ _) Wk.nil))))))))), ?_⟩
            rw [← List.map_take]
            exact hK _ (hE.set _ g_o248)
           ·refine Br.no h367 ?_
            simp only [EVA, reduceIte, reduceCtorEq, Nat.reduceLT, Nat.reduceLeDiff, Int.reduceEq, Int.reduceLT, Int.reduceLE, Nat.reduceMul, Int.reduceToNat, Nat.reduceAdd, eq_false h282, eq_false h292, eq_false h302, eq_false h303, eq_false h316, eq_false h331, eq_false h344, eq_false h357, eq_true h366, eq_false h367, f_o1, f_o3, f_o248]
            refine eop_store_go (H0 := H) (id := o3) (off := 0) (v := .agg [.int .i64 a0.c0, .int .i64 a0.c1, .sl 1 o248 0 a0.c2.length, .dl 1 (List.map (AV.int .i64) a0.c3) tl250, .dl 1 (List.map (AV.int .u64) a0.c4) tl256, .dl 1 (List.map (AV.int .u64) a0.c5) tl263, .dl 1 (List.map (AV.int .u64) a0.c6) tl271]) rfl rfl f_o3 ty41 rfl rfl (Nat.le_of_ble_eq_true rfl) hE g_o3 ?_
            intro H375 hE f9_o3 p376 l9
            have F252 := F252.keep f_o3 p376
            have F258 := F258.keep f_o3 p376
            have F265 := F265.keep f_o3 p376
            have F273 := F273.keep f_o3 p376
            have f_o1 := p376 _ _ ne_o1_o3 f_o1
            have f_o248 := p376 _ _ (Ne.symm ne_o3_o248) f_o248
            have f_o3 : H375[o3]? = some (.cells ([.int .i64 a0.c0, .int .i64 a0.c1, .sl 1 o248 0 a0.c2.length, .dl 1 (List.map (AV.int .i64) a0.c3) tl250, .dl 1 (List.map (AV.int .u64) a0.c4) tl256, .dl 1 (List.map (AV.int .u64) a0.c5) tl263, .dl 1 (List.map (AV.int .u64) a0.c6) tl271])) := f9_o3
            obtain ⟨h377, hg⟩ := guard_some hg
            simp only [EVA, reduceIte, reduceCtorEq, Nat.reduceLT, Nat.reduceLeDiff, Int.reduceEq, Int.reduceLT, Int.reduceLE, Nat.reduceMul, Int.reduceToNat, Nat.reduceAdd, rs19, eq_false h282, eq_false h292, eq_false h302, eq_false h303, eq_false h316, eq_false h331, eq_false h344, eq_false h357, eq_true h366, eq_false h367, f_o1, f_o3, f_o248]
            obtain rfl := Option.some.inj hg
            refine .inr ⟨_, 2, o248, a0.c2.length, _, _, rfl, rfl, f_o248, by simpa using h377, frz_map (AV.int .i64) (fun _ => rfl) _, (wkR.a (wkA.agg (Wk.r (Wk.r (Wk.r (Wk.cons (wkV.tail _ _ _) (Wk.cons (wkV.tail _ _ _) (Wk.cons (wkV.tail _ _ _) (Wk.cons (wkV.tail _ _ _) Wk.nil))))))))), ?_⟩
            rw [← List.map_take]
            exact hK _ (hE.set _ g_o248)
          ·refine Br.no h366 ?_
           simp only [EVA, reduceIte, reduceCtorEq, Nat.reduceLT, Nat.reduceLeDiff, Int.reduceEq, Int.reduceLT, Int.reduceLE, Nat.reduceMul, Int.reduceToNat, Nat.reduceAdd, eq_false h282, eq_false h292, eq_false h302, eq_false h303, eq_false h316, eq_false h331, eq_false h344, eq_false h357, eq_false h366, f_o1, f_o3, f_o248]
           refine eop_store_go (H0 := H) (id := o3) (off := 0) (v := .agg [.int .i64 a0.c0, .int .i64 a0.c1, .sl 1 o248 0 a0.c2.length, .dl 1 (List.map (AV.int .i64) a0.c3) tl250, .dl 1 (List.map (AV.int .u64) a0.c4) tl256, .dl 1 (List.map (AV.int .u64) a0.c5) tl263, .dl 1 (List.map (AV.int .u64) a0.c6) tl271]) rfl rfl f_o3 ty41 rfl rfl (Nat.le_of_ble_eq_true rfl) hE g_o3 ?_
           intro H378 hE f9_o3 p379 l9
           have F252 := F252.keep f_o3 p379
           have F258 := F258.keep f_o3 p379
           have F265 := F265.keep f_o3 p379
           have F273 := F273.keep f_o3 p379
           have f_o1 := p379 _ _ ne_o1_o3 f_o1
           have f_o248 := p379 _ _ (Ne.symm ne_o3_o248) f_o248
           have f_o3 : H378[o3]? = some (.cells ([.int .i64 a0.c0, .int .i64 a0.c1, .sl 1 o248 0 a0.c2.length, .dl 1 (List.map (AV.int .i64) a0.c3) tl250, .dl 1 (List.map (AV.int .u64) a0.c4) tl256, .dl 1 (List.map (AV.int .u64) a0.c5) tl263, .dl 1 (List.map (AV.int .u64) a0.c6) tl271])) := f9_o3
           obtain ⟨h380, hg⟩ := guard_some hg
           simp only [EVA, reduceIte, reduceCtorEq, Nat.reduceLT, Nat.reduceLeDiff, Int.reduceEq, Int.reduceLT, Int.reduceLE, Nat.reduceMul, Int.reduceToNat, Nat.reduceAdd, rs19, eq_false h282, eq_false h292, eq_false h302, eq_false h303, eq_false h316, eq_false h331, eq_false h344, eq_false h357, eq_false h366, f_o1, f_o3, f_o248]
           obtain rfl := Option.some.inj hg
           refine .inr ⟨_, 2, o248, a0.c2.length, _, _, rfl, rfl, f_o248, by simpa using h380, frz_map (AV.int .i64) (fun _ => rfl) _, (wkR.a (wkA.agg (Wk.r (Wk.r (Wk.r (Wk.cons (wkV.tail _ _ _) (Wk.cons (wkV.tail _ _ _) (Wk.cons (wkV.tail _ _ _) (Wk.cons (wkV.tail _ _ _) Wk.nil))))))))), ?_⟩
           rw [← List.map_take]
           exact hK _ (hE.set _ g_o248)
 ·obtain ⟨h11, hg⟩ := guard_some hg
  refine AppE.goM (H0 := H) (AV.int .i64) ([] : List Int) a0.c2 (n := 17592186044416) ty22 rfl ty3 rfl rfl (by decide) (.dl 1 (List.map (AV.int .i64) a0.c2) .none) (wkD.refl _) (srcA_dl ty22 rfl) (.inl rfl) h11 (by decide) (by decide) hE (Free.full _ _) ?_
  intro tl6 H7 hE F8 p9 q10 l9
  have f_o1 := p9 _ _ (cnt _) f_o1
  have f_o3 := p9 _ _ (cnt _) f_o3
  simp only [EVA, reduceIte, reduceCtorEq, Nat.reduceLT, Nat.reduceLeDiff, Int.reduceEq, Int.reduceLT, Int.reduceLE, Nat.reduceMul, Int.reduceToNat, Nat.reduceAdd, f_o1, f_o3]
  obtain ⟨h17, hg⟩ := guard_some hg
  refine AppE.goM (H0 := H) (AV.int .i64) ([] : List Int) a0.c3 (n := 17592186044416) ty22 rfl ty3 rfl rfl (by decide) (.dl 1 (List.map (AV.int .i64) a0.c3) .none) (wkD.refl _) (srcA_dl ty22 rfl) (.inl rfl) h17 (by decide) (by decide) hE (Free.full _ _) ?_
  intro tl12 H13 hE F14 p15 q16 l9
  have f_o1 := p15 _ _ (cnt _) f_o1
  have f_o3 := p15 _ _ (cnt _) f_o3
  obtain ⟨F8, D18⟩ := q16 _ F8 (tlNe.full _)
  simp only [EVA, reduceIte, reduceCtorEq, Nat.reduceLT, Nat.reduceLeDiff, Int.reduceEq, Int.reduceLT, Int.reduceLE, Nat.reduceMul, Int.reduceToNat, Nat.reduceAdd, f_o1, f_o3]
  obtain ⟨h24, hg⟩ := guard_some hg
  refine AppE.goM (H0 := H) (AV.int .u64) ([] : List Int) a0.c4 (n := 17592186044416) ty27 rfl ty53 rfl rfl (by decide) (.dl 1 (List.map (AV.int .u64) a0.c4) .none) (wkD.refl _) (srcA_dl ty27 rfl) (.inl rfl) h24 (by decide) (by decide) hE (Free.full _ _) ?_
  intro tl19 H20 hE F21 p22 q23 l9
  have f_o1 := p22 _ _ (cnt _) f_o1
  have f_o3 := p22 _ _ (cnt _) f_o3
  obtain ⟨F8, D25⟩ := q23 _ F8 (tlNe.full _)
  obtain ⟨F14, D26⟩ := q23 _ F14 (tlNe.full _)
  simp only [EVA, reduceIte, reduceCtorEq, Nat.reduceLT, Nat.reduceLeDiff, Int.reduceEq, Int.reduceLT, Int.reduceLE, Nat.reduceMul, Int.reduceToNat, Nat.reduceAdd, f_o1, f_o3]
  obtain ⟨h32, hg⟩ := guard_some hg
  refine AppE.goM (H0 := H) (AV.int .u64) ([] : List Int) a0.c5 (n := 17592186044416) ty27 rfl ty53 rfl rfl (by decide) (.dl 1 (List.map (AV.int .u64) a0.c5) .none) (wkD.refl _) (srcA_dl ty27 rfl) (.inl rfl) h32 (by decide) (by decide) hE (Free.full _ _) ?_
  intro tl27 H28 hE F29 p30 q31 l9
  have f_o1 := p30 _ _ (cnt _) f_o1
  have f_o3 := p30 _ _ (cnt _) f_o3
  obtain ⟨F8, D33⟩ := q31 _ F8 (tlNe.full _)
  obtain ⟨F14, D34⟩ := q31 _ F14 (tlNe.full _)
  obtain ⟨F21, D35⟩ := q31 _ F21 (tlNe.full _)
  simp only [EVA, reduceIte, reduceCtorEq, Nat.reduceLT, Nat.reduceLeDiff, Int.reduceEq, Int.reduceLT, Int.reduceLE, Nat.reduceMul, Int.reduceToNat, Nat.reduceAdd, f_o1, f_o3]
  rcases ite_some hg with ⟨h36, hg⟩ | ⟨h36, hg⟩
  ·obtain ⟨h144, hg⟩ := guard_some hg
   refine AppE.mutGo (H0 := H) (AV.int .u64) (fun _ => rfl) a0.c6 (n := 17592186044416) ty27 rfl ty53 rfl rfl rfl (srcA_dl ty27 rfl) h36.2 h144 (by decide) (by decide) hE ?_
   intro o145 H146 hE xo145 g_o145 f_o145 n_o145
   have ne_o1_o145 := n_o145 _ _ f_o1
   have f_o1 := xo145.2 _ _ f_o1
   have ne_o3_o145 := n_o145 _ _ f_o3
   have f_o3 := xo145.2 _ _ f_o3
   have F8 := F8.mono xo145
   have F14 := F14.mono xo145
   have F21 := F21.mono xo145
   have F29 := F29.mono xo145
   simp only [EVA, reduceIte, reduceCtorEq, Nat.reduceLT, Nat.reduceLeDiff, Int.reduceEq, Int.reduceLT, Int.reduceLE, Nat.reduceMul, Int.reduceToNat, Nat.reduceAdd, f_o1, f_o3, f_o145]
   obtain ⟨v147, ch148, hg⟩ := bind_some hg
   refine ACall.wkA (args := [.int .i64 a1, .int .i64 9]) (c7 B w0 n a1 9 _ _ v147 ch148  ?_) (WkA.r (WkA.r WkA.nil))
   simp only [EVA, reduceIte, reduceCtorEq, Nat.reduceLT, Nat.reduceLeDiff, Int.reduceEq, Int.reduceLT, Int.reduceLE, Nat.reduceMul, Int.reduceToNat, Nat.reduceAdd, f_o1, f_o3, f_o145]
   rcases ite_some hg with ⟨h149, hg⟩ | ⟨h149, hg⟩
   ·refine Br.yes h149 ?_
    simp only [EVA, reduceIte, reduceCtorEq, Nat.reduceLT, Nat.reduceLeDiff, Int.reduceEq, Int.reduceLT, Int.reduceLE, Nat.reduceMul, Int.reduceToNat, Nat.reduceAdd, eq_true h149, f_o1, f_o3, f_o145]
    obtain ⟨v150, ch151, hg⟩ := bind_some hg
    refine ACall.wkA (args := [.int .i64 a2, .int .i64 4]) (c7 B w0 n a2 4 _ _ v150 ch151  ?_) (WkA.r (WkA.r WkA.nil))
    obtain ⟨h152, hg⟩ := guard_some hg
    have q153 : List.getD ([.int .i64 a2, .int .i64 (-1), .int .i64 4095, .int .i64 4096]) (Int.toNat v150) AV.undef = (AV.int .i64) (rd ([a2, (-1), 4095, 4096] : List Int) v150) := rd_map (l := ([a2, (-1), 4095, 4096] : List Int)) (i := v150) (AV.int .i64) ⟨h152.1, by simp only [List.length_cons, List.length_nil]; omega⟩
    simp only [EVA, reduceIte, reduceCtorEq, Nat.reduceLT, Nat.reduceLeDiff, Int.reduceEq, Int.reduceLT, Int.reduceLE, Nat.reduceMul, Int.reduceToNat, Nat.reduceAdd, eq_true h149, eq_true h152.1, eq_true h152.2, q153, f_o1, f_o3, f_o145]
    refine eop_store_go (H0 := H) (id := o1) (off := 0) (v := .int .i64 (rd ([a2, (-1), 4095, 4096] : List Int) v150)) rfl rfl f_o1 ty3 rfl rfl (Nat.le_of_ble_eq_true rfl) hE g_o1 ?_
    intro H154 hE f9_o1 p155 l9
    have F8 := F8.keep f_o1 p155
    have F14 := F14.keep f_o1 p155
    have F21 := F21.keep f_o1 p155
    have F29 := F29.keep f_o1 p155
    have f_o3 := p155 _ _ (Ne.symm ne_o1_o3) f_o3
    have f_o145 := p155 _ _ (Ne.symm ne_o1_o145) f_o145
    have f_o1 : H154[o1]? = some (.cells ([.int .i64 (rd ([a2, (-1), 4095, 4096] : List Int) v150), .int .i64 a0.c1, .dl 1 (List.map (AV.int .i64) a0.c2) .none, .dl 1 (List.map (AV.int .i64) a0.c3) .none, .dl 1 (List.map (AV.int .u64) a0.c4) .none, .dl 1 (List.map (AV.int .u64) a0.c5) .none, .dl 1 (List.map (AV.int .u64) a0.c6) .none])) := f9_o1
    simp only [EVA, reduceIte, reduceCtorEq, Nat.reduceLT, Nat.reduceLeDiff, Int.reduceEq, Int.reduceLT, Int.reduceLE, Nat.reduceMul, Int.reduceToNat, Nat.reduceAdd, eq_true h149, eq_true h152.1, eq_true h152.2, q153, f_o1, f_o3, f_o145]
    refine eop_store_go (H0 := H) (id := o3) (off := 0) (v := .agg [.int .i64 (rd ([a2, (-1), 4095, 4096] : List Int) v150), .int .i64 a0.c1, .dl 1 (List.map (AV.int .i64) a0.c2) tl6, .dl 1 (List.map (AV.int .i64) a0.c3) tl12, .dl 1 (List.map (AV.int .u64) a0.c4) tl19, .dl 1 (List.map (AV.int .u64) a0.c5) tl27, .sl 1 o145 0 a0.c6.length]) rfl rfl f_o3 ty41 rfl rfl (Nat.le_of_ble_eq_true rfl) hE g_o3 ?_
    intro H156 hE f9_o3 p157 l9
    have F8 := F8.keep f_o3 p157
    have F14 := F14.keep f_o3 p157
    have F21 := F21.keep f_o3 p157
    have F29 := F29.keep f_o3 p157
    have f_o1 := p157 _ _ ne_o1_o3 f_o1
    have f_o145 := p157 _ _ (Ne.symm ne_o3_o145) f_o145
    have f_o3 : H156[o3]? = some (.cells ([.int .i64 (rd ([a2, (-1), 4095, 4096] : List Int) v150), .int .i64 a0.c1, .dl 1 (List.map (AV.int .i64) a0.c2) tl6, .dl 1 (List.map (AV.int .i64) a0.c3) tl12, .dl 1 (List.map (AV.int .u64) a0.c4) tl19, .dl 1 (List.map (AV.int .u64) a0.c5) tl27, .sl 1 o145 0 a0.c6.length])) := f9_o3
    obtain ⟨h158, hg⟩ := guard_some hg
    simp only [EVA, reduceIte, reduceCtorEq, Nat.reduceLT, Nat.reduceLeDiff, Int.reduceEq, Int.reduceLT, Int.reduceLE, Nat.reduceMul, Int.reduceToNat, Nat.reduceAdd, rs19, eq_true h149, eq_true h152.1, eq_true h152.2, q153, f_o1, f_o3, f_o145]
    obtain rfl := Option.some.inj hg
    refine .inr ⟨_, 6, o145, a0.c6.length, _, _, rfl, rfl, f_o145, by simpa using h158, frz_map (AV.int .u64) (fun _ => rfl) _, (wkR.a (wkA.agg (Wk.r (Wk.r (Wk.cons (wkV.tail _ _ _) (Wk.cons (wkV.tail _ _ _) (Wk.cons (wkV.tail _ _ _) (Wk.cons (wkV.tail _ _ _) (Wk.r Wk.nil))))))))), ?_⟩
    rw [← List.map_take]
    exact hK _ (hE.set _ g_o145)
   ·refine Br.no h149 ?_
    simp only [EVA, reduceIte, reduceCtorEq, Nat.reduceLT, Nat.reduceLeDiff, Int.reduceEq, Int.reduceLT, Int.reduceLE, Nat.reduceMul, Int.reduceToNat, Nat.reduceAdd, eq_false h149, f_o1, f_o3, f_o145]
    rcases ite_some hg with ⟨h159, hg⟩ | ⟨h159, hg⟩
    ·refine Br.yes h159 ?_
     simp only [EVA, reduceIte, reduceCtorEq, Nat.reduceLT, Nat.reduceLeDiff, Int.reduceEq, Int.reduceLT, Int.reduceLE, Nat.reduceMul, Int.reduceToNat, Nat.reduceAdd, eq_false h149, eq_true h159, f_o1, f_o3, f_o145]
     obtain ⟨v160, ch161, hg⟩ := bind_some hg
     refine ACall.wkA (args := [.int .i64 a2, .int .i64 4]) (c7 B w0 n a2 4 _ _ v160 ch161  ?_) (WkA.r (WkA.r WkA.nil))
     obtain ⟨h162, hg⟩ := guard_some hg
     have q163 : List.getD ([.int .i64 a2, .int .i64 (-1), .int .i64 1099511627776, .int .i64 1099511627777]) (Int.toNat v160) AV.undef = (AV.int .i64) (rd ([a2, (-1), 1099511627776, 1099511627777] : List Int) v160) := rd_map (l := ([a2, (-1), 1099511627776, 1099511627777] : List Int)) (i := v160) (AV.int .i64) ⟨h162.1, by simp only [List.length_cons, List.length_nil]; omega⟩
     simp only [EVA, reduceIte, reduceCtorEq, Nat.reduceLT, Nat.reduceLeDiff, Int.reduceEq, Int.reduceLT, Int.reduceLE, Nat.reduceMul, Int.reduceToNat, Nat.reduceAdd, eq_false h149, eq_true h159, eq_true h162.1, eq_true h162.2, q163, f_o1, f_o3, f_o145]
     refine eop_store_go (H0 := H) (id := o1) (off := 1) (v := .int .i64 (rd ([a2, (-1), 1099511627776, 1099511627777] : List Int) v160)) rfl rfl f_o1 ty3 rfl rfl (Nat.le_of_ble_eq_true rfl) hE g_o1 ?_
     intro H164 hE f9_o1 p165 l9
     have F8 := F8.keep f_o1 p165
     have F14 := F14.keep f_o1 p165
     have F21 := F21.keep f_o1 p165
     have F29 := F29.keep f_o1 p165
     have f_o3 := p165 _ _ (Ne.symm ne_o1_o3) f_o3
     have f_o145 := p165 _ _ (Ne.symm ne_o1_o145) f_o145
     have f_o1 : H164[o1]? = some (.cells ([.int .i64 a0.c0, .int .i64 (rd ([a2, (-1), 1099511627776, 1099511627777] : List Int) v160), .dl 1 (List.map (AV.int .i64) a0.c2) .none, .dl 1 (List.map (AV.int .i64) a0.c3) .none, .dl 1 (List.map (AV.int .u64) a0.c4) .none, .dl 1 (List.map (AV.int .u64) a0.c5) .none, .dl 1 (List.map (AV.int .u64) a0.c6) .none])) := f9_o1
     simp only [EVA, reduceIte, reduceCtorEq, Nat.reduceLT, Nat.reduceLeDiff, Int.reduceEq, Int.reduceLT, Int.reduceLE, Nat.reduceMul, Int.reduceToNat, Nat.reduceAdd, eq_false h149, eq_true h159, eq_true h162.1, eq_true h162.2, q163, f_o1, f_o3, f_o145]
     refine eop_store_go (H0 := H) (id := o3) (off := 0) (v := .agg [.int .i64 a0.c0, .int .i64 (rd ([a2, (-1), 1099511627776, 1099511627777] : List Int) v160), .dl 1 (List.map (AV.int .i64) a0.c2) tl6, .dl 1 (List.map (AV.int .i64) a0.c3) tl12, .dl 1 (List.map (AV.int .u64) a0.c4) tl19, .dl 1 (List.map (AV.int .u64) a0.c5) tl27, .sl 1 o145 0 a0.c6.length]) rfl rfl f_o3 ty41 rfl rfl (Nat.le_of_ble_eq_true rfl) hE g_o3 ?_
     intro H166 hE f9_o3 p167 l9
     have F8 := F8.keep f_o3 p167
     have F14 := F14.keep f_o3 p167
     have F21 := F21.keep f_o3 p167
     have F29 := F29.keep f_o3 p167
     have f_o1 := p167 _ _ ne_o1_o3 f_o1
     have f_o145 := p167 _ _ (Ne.symm ne_o3_o145) f_o145
     have f_o3 : H166[o3]? = some (.cells ([.int .i64 a0.c0, .int .i64 (rd ([a2, (-1), 1099511627776, 1099511627777] : List Int) v160), .dl 1 (List.map (AV.int .i64) a0.c2) tl6, .dl 1 (List.map (AV.int .i64) a0.c3) tl12, .dl 1 (List.map (AV.int .u64) a0.c4) tl19, .dl 1 (List.map (AV.int .u64) a0.c5) tl27, .sl 1 o145 0 a0.c6.length])) := f9_o3
     obtain ⟨h168, hg⟩ := guard_some hg
     simp only [EVA, reduceIte, reduceCtorEq, Nat.reduceLT, Nat.reduceLeDiff, Int.reduceEq, Int.reduceLT, Int.reduceLE, Nat.reduceMul, Int.reduceToNat, Nat.reduceAdd, rs19, eq_false h149, eq_true h159, eq_true h162.1, eq_true h162.2, q163, f_o1, f_o3, f_o145]
     obtain rfl := Option.some.inj hg
     refine .inr ⟨_, 6, o145, a0.c6.length, _, _, rfl, rfl, f_o145, by simpa using h168, frz_map (AV.int .u64) (fun _ => rfl) _, (wkR.a (wkA.agg (Wk.r (Wk.r (Wk.cons (wkV.tail _ _ _) (Wk.cons (wkV.tail _ _ _) (Wk.cons (wkV.tail _ _ _) (Wk.cons (wkV.tail _ _ _) (Wk.r Wk.nil))))))))), ?_⟩
     rw [← List.map_take]
     exact hK _ (hE.set _ g_o145)
    ·refine Br.no h159 ?_
     simp only [EVA, reduceIte, reduceCtorEq, Nat.reduceLT, Nat.reduceLeDiff, Int.reduceEq, Int.reduceLT, Int.reduceLE, Nat.reduceMul, Int.reduceToNat, Nat.reduceAdd, eq_false h149, eq_false h159, f_o1, f_o3, f_o145]
     rcases ite_some hg with ⟨h169, hg⟩ | ⟨h169, hg⟩
     ·refine Br.yes h169 ?_
      simp only [EVA, reduceIte, reduceCtorEq, Nat.reduceLT, Nat.reduceLeDiff, Int.reduceEq, Int.reduceLT, Int.reduceLE, Nat.reduceMul, Int.reduceToNat, Nat.reduceAdd, eq_false h149, eq_false h159, eq_true h169, f_o1, f_o3, f_o145]
      obtain ⟨h175, hg⟩ := guard_some hg
      refine AppE.goM (H0 := H) (AV.int .i64) a0.c2 ([a2] : List Int) (n := 17592186044416) ty22 rfl ty3 rfl rfl (by decide) (.dl 1 [.int .i64 a2] .full) (wkD.refl _) (srcA_dl ty22 rfl) (.inl rfl) h175 (by decide) (by decide) hE F8 ?_
      intro tl170 H171 hE F172 p173 q174 l9
      have f_o1 := p173 _ _ (cnt _) f_o1
      have f_o3 := p173 _ _ (cnt _) f_o3
      have f_o145 := p173 _ _ (cnt _) f_o145
      obtain ⟨F14, D176⟩ := q174 _ F14 D18.symm
      obtain ⟨F21, D177⟩ := q174 _ F21 D25.symm
      obtain ⟨F29, D178⟩ := q174 _ F29 D33.symm
      simp only [EVA, reduceIte, reduceCtorEq, Nat.reduceLT, Nat.reduceLeDiff, Int.reduceEq, Int.reduceLT, Int.reduceLE, Nat.reduceMul, Int.reduceToNat, Nat.reduceAdd, eq_false h149, eq_false h159, eq_true h169, f_o1, f_o3, f_o145]
      refine eop_store_go (H0 := H) (id := o3) (off := 0) (v := .agg [.int .i64 a0.c0, .int .i64 a0.c1, .dl 1 (List.map (AV.int .i64) (a0.c2 ++ ([a2] : List Int))) tl170, .dl 1 (List.map (AV.int .i64) a0.c3) tl12, .dl 1 (List.map (AV.int .u64) a0.c4) tl19, .dl 1 (List.map (AV.int .u64) a0.c5) tl27, .sl 1 o145 0 a0.c6.length]) rfl rfl f_o3 ty41 rfl rfl (Nat.le_of_ble_eq_true rfl) hE g_o3 ?_
      intro H179 hE f9_o3 p180 l9
      have F14 := F14.keep f_o3 p180
      have F21 := F21.keep f_o3 p180
      have F29 := F29.keep f_o3 p180
      have F172 := F172.keep f_o3 p180
      have f_o1 := p180 _ _ ne_o1_o3 f_o1
      have f_o145 := p180 _ _ (Ne.symm ne_o3_o145) f_o145
      have f_o3 : H179[o3]? = some (.cells ([.int .i64 a0.c0, .int .i64 a0.c1, .dl 1 (List.map (AV.int .i64) (a0.c2 ++ ([a2] : List Int))) tl170, .dl 1 (List.map (AV.int .i64) a0.c3) tl12, .dl 1 (List.map (AV.int .u64) a0.c4) tl19, .dl 1 (List.map (AV.int .u64) a0.c5) tl27, .sl 1 o145 0 a0.c6.length])) := f9_o3
      obtain ⟨h181, hg⟩ := guard_some hg
      simp only [EVA, reduceIte, reduceCtorEq, Nat.reduceLT, Nat.reduceLeDiff, Int.reduceEq, Int.reduceLT, Int.reduceLE, Nat.reduceMul, Int.reduceToNat, Nat.reduceAdd, rs19, eq_false h149, eq_false h159, eq_true h169, f_o1, f_o3, f_o145]
      obtain rfl := Option.some.inj hg
      refine .inr ⟨_, 6, o145, a0.c6.length, _, _, rfl, rfl, f_o145, by simpa using h181, frz_map (AV.int .u64) (fun _ => rfl) _, (wkR.a (wkA.agg (Wk.r (Wk.r (Wk.cons (wkV.tail _ _ _) (Wk.cons (wkV.tail _ _ _) (Wk.cons (wkV.tail _ _ _) (Wk.cons (wkV.tail _ _ _) (Wk.r Wk.nil))))))))), ?_⟩
      rw [← List.map_take]
      exact hK _ (hE.set _ g_o145)
     ·refine Br.no h169 ?_
      simp only [EVA, reduceIte, reduceCtorEq, Nat.reduceLT, Nat.reduceLeDiff, Int.reduceEq, Int.reduceLT, Int.reduceLE, Nat.reduceMul, Int.reduceToNat, Nat.reduceAdd, eq_false h149, eq_false h159, eq_false h169, f_o1, f_o3, f_o145]
      rcases ite_some hg with ⟨h182, hg⟩ | ⟨h182, hg⟩
      ·refine Br.yes h182 ?_
       simp only [EVA, reduceIte, reduceCtorEq, Nat.reduceLT, Nat.reduceLeDiff, Int.reduceEq, Int.reduceLT, Int.reduceLE, Nat.reduceMul, Int.reduceToNat, Nat.reduceAdd, eq_false h149, eq_false h159, eq_false h169, eq_true h182, f_o1, f_o3, f_o145]
       obtain ⟨h188, hg⟩ := guard_some hg
       refine AppE.goM (H0 := H) (AV.int .i64) a0.c3 ([a2] : List Int) (n := 17592186044416) ty22 rfl ty3 rfl rfl (by decide) (.dl 1 [.int .i64 a2] .full) (wkD.refl _) (srcA_dl ty22 rfl) (.inl rfl) h188 (by decide) (by decide) hE F14 ?_
       intro tl183 H184 hE F185 p186 q187 l9
       have f_o1 := p186 _ _ (cnt _) f_o1
       have f_o3 := p186 _ _ (cnt _) f_o3
       have f_o145 := p186 _ _ (cnt _) f_o145
       obtain ⟨F8, D189⟩ := q187 _ F8 D18
       obtain ⟨F21, D190⟩ := q187 _ F21 D26.symm
       obtain ⟨F29, D191⟩ := q187 _ F29 D34.symm
       simp only [EVA, reduceIte, reduceCtorEq, Nat.reduceLT, Nat.reduceLeDiff, Int.reduceEq, Int.reduceLT, Int.reduceLE, Nat.reduceMul, Int.reduceToNat, Nat.reduceAdd, eq_false h149, eq_false h159, eq_false h169, eq_true h182, f_o1, f_o3, f_o145]
       refine eop_store_go (H0 := H) (id := o3) (off := 0) (v := .agg [.int .i64 a0.c0, .int .i64 a0.c1, .dl 1 (List.map (AV.int .i64) a0.c2) tl6, .dl 1 (List.map (AV.int .i64) (a0.c3 ++ ([a2] : List Int))) tl183, .dl 1 (List.map (AV.int .u64) a0.c4) tl19, .dl 1 (List.map (AV.int .u64) a0.c5) tl27, .sl 1 o145 0 a0.c6.length]) rfl rfl f_o3 ty41 rfl rfl (Nat.le_of_ble_eq_true rfl) hE g_o3 ?_
       intro H192 hE f9_o3 p193 l9
       have F8 := F8.keep f_o3 p193
       have F21 := F21.keep f_o3 p193
       have F29 := F29.keep f_o3 p193
       have F185 := F185.keep f_o3 p193
       have f_o1 := p193 _ _ ne_o1_o3 f_o1
       have f_o145 := p193 _ _ (Ne.symm ne_o3_o145) f_o145
       have f_o3 : H192[o3]? = some (.cells ([.int .i64 a0.c0, .int .i64 a0.c1, .dl 1 (List.map (AV.int .i64) a0.c2) tl6, .dl 1 (List.map (AV.int .i64) (a0.c3 ++ ([a2] : List Int))) tl183, .dl 1 (List.map (AV.int .u64) a0.c4) tl19, .dl 1 (List.map (AV.int .u64) a0.c5) tl27, .sl 1 o145 0 a0.c6.length])) := f9_o3
       obtain ⟨h194, hg⟩ := guard_some hg
       simp only [EVA, reduceIte, reduceCtorEq, Nat.reduceLT, Nat.reduceLeDiff, Int.reduceEq, Int.reduceLT, Int.reduceLE, Nat.reduceMul, Int.reduceToNat, Nat.reduceAdd, rs19, eq_false h149, eq_false h159, eq_false h169, eq_true h182, f_o1, f_o3, f_o145]
       obtain rfl := Option.some.inj hg
       refine .inr ⟨_, 6, o145, a0.c6.length, _, _, rfl, rfl, f_o145, by simpa using h194, frz_map (AV.int .u64) (fun _ => rfl) _, (wkR.a (wkA.agg (Wk.r (Wk.r (Wk.cons (wkV.tail _ _ _) (Wk.cons (wkV.tail _ _ _) (Wk.cons (wkV.tail _ _ _) (Wk.cons (wkV.tail _ _ _) (Wk.r Wk.nil))))))))), ?_⟩
       rw [← List.map_take]
       exact hK _ (hE.set _ g_o145)
      ·refine Br.no h182 ?_
       simp only [EVA, reduceIte, reduceCtorEq, Nat.reduceLT, Nat.reduceLeDiff, Int.reduceEq, Int.reduceLT, Int.reduceLE, Nat.reduceMul, Int.reduceToNat, Nat.reduceAdd, eq_false h149, eq_false h159, eq_false h169, eq_false h182, f_o1, f_o3, f_o145]
       rcases ite_some hg with ⟨h195, hg⟩ | ⟨h195, hg⟩
       ·refine Br.yes h195 ?_
        simp only [EVA, reduceIte, reduceCtorEq, Nat.reduceLT, Nat.reduceLeDiff, Int.reduceEq, Int.reduceLT, Int.reduceLE, Nat.reduceMul, Int.reduceToNat, Nat.reduceAdd, eq_false h149, eq_false h159, eq_false h169, eq_false h182, eq_true h195, f_o1, f_o3, f_o145]
        obtain ⟨v196, ch197, hg⟩ := bind_some hg
        refine ACall.wkA (args := [.int .i64 a2, .int .i64 30]) (c7 B w0 n a2 30 _ _ v196 ch197  ?_) (WkA.r (WkA.r WkA.nil))
        simp only [EVA, reduceIte, reduceCtorEq, Nat.reduceLT, Nat.reduceLeDiff, Int.reduceEq, Int.reduceLT, Int.reduceLE, Nat.reduceMul, Int.reduceToNat, Nat.reduceAdd, eq_false h149, eq_false h159, eq_false h169, eq_false h182, eq_true h195, f_o1, f_o3, f_o145]
        obtain ⟨h203, hg⟩ := guard_some hg
        refine AppE.goM (H0 := H) (AV.int .u64) a0.c4 ([IntKind.u64.wrap v196] : List Int) (n := 17592186044416) ty27 rfl ty53 rfl rfl (by decide) (.dl 1 [.int .u64 (IntKind.u64.wrap v196)] .full) (wkD.refl _) (srcA_dl ty27 rfl) (.inl rfl) h203 (by decide) (by decide) hE F21 ?_
        intro tl198 H199 hE F200 p201 q202 l9
        have f_o1 := p201 _ _ (cnt _) f_o1
        have f_o3 := p201 _ _ (cnt _) f_o3
        have f_o145 := p201 _ _ (cnt _) f_o145
        obtain ⟨F8, D204⟩ := q202 _ F8 D25
        obtain ⟨F14, D205⟩ := q202 _ F14 D26
        obtain ⟨F29, D206⟩ := q202 _ F29 D35.symm
        simp only [EVA, reduceIte, reduceCtorEq, Nat.reduceLT, Nat.reduceLeDiff, Int.reduceEq, Int.reduceLT, Int.reduceLE, Nat.reduceMul, Int.reduceToNat, Nat.reduceAdd, eq_false h149, eq_false h159, eq_false h169, eq_false h182, eq_true h195, f_o1, f_o3, f_o145]
        refine eop_store_go (H0 := H) (id := o3) (off := 0) (v := .agg [.int .i64 a0.c0, .int .i64 a0.c1, .dl 1 (List.map (AV.int .i64) a0.c2) tl6, .dl 1 (List.map (AV.int .i64) a0.c3) tl12, .dl 1 (List.map (AV.int .u64) (a0.c4 ++ ([IntKind.u64.wrap v196] : List Int))) tl198, .dl 1 (List.map (AV.int .u64) a0.c5) tl27, .sl 1 o145 0 a0.c6.length]) rfl rfl f_o3 ty41 rfl rfl (Nat.le_of_ble_eq_true rfl) hE g_o3 ?_
        intro H207 hE f9_o3 p208 l9
        have F8 := F8.keep f_o3 p208
        have F14 := F14.keep f_o3 p208
        have F29 := F29.keep f_o3 p208
        have F200 := F200.keep f_o3 p208
        have f_o1 := p208 _ _ ne_o1_o3 f_o1
        have f_o145 := p208 _ _ (Ne.symm ne_o3_o145) f_o145
        have f_o3 : H207[o3]? = some (.cells ([.int .i64 a0.c0, .int .i64 a0.c1, .dl 1 (List.map (AV.int .i64) a0.c2) tl6, .dl 1 (List.map (AV.int .i64) a0.c3) tl12, .dl 1 (List.map (AV.int .u64) (a0.c4 ++ ([IntKind.u64.wrap v196] : List Int))) tl198, .dl 1 (List.map (AV.int .u64) a0.c5) tl27, .sl 1 o145 0 a0.c6.length])) := f9_o3
        obtain ⟨h209, hg⟩ := guard_some hg
        simp only [EVA, reduceIte, reduceCtorEq, Nat.reduceLT, Nat.reduceLeDiff, Int.reduceEq, Int.reduceLT, Int.reduceLE, Nat.reduceMul, Int.reduceToNat, Nat.reduceAdd, rs19, eq_false h149, eq_false h159, eq_false h169, eq_false h182, eq_true h195, f_o1, f_o3, f_o145]
        obtain rfl := Option.some.inj hg
        refine .inr ⟨_, 6, o145, a0.c6.length, _, _, rfl, rfl, f_o145, by simpa using h209, frz_map (AV.int .u64) (fun _ => rfl) _, (wkR.a (wkA.agg (Wk.r (Wk.r (Wk.cons (wkV.tail _ _ _) (Wk.cons (wkV.tail _ _ _) (Wk.cons (wkV.tail _ _ _) (Wk.cons (wkV.tail _ _ _) (Wk.r Wk.nil))))))))), ?_⟩
        rw [← List.map_take]
        exact hK _ (hE.set _ g_o145)
       ·refine Br.no h195 ?_
        simp only [EVA, reduceIte, reduceCtorEq, Nat.reduceLT, Nat.reduceLeDiff, Int.reduceEq, Int.reduceLT, Int.reduceLE, Nat.reduceMul, Int.reduceToNat, Nat.reduceAdd, eq_false h149, eq_false h159, eq_false h169, eq_false h182, eq_false h195, f_o1, f_o3, f_o145]
        rcases ite_some hg with ⟨h210, hg⟩ | ⟨h210, hg⟩
        ·refine Br.yes h210 ?_
         simp only [EVA, reduceIte, reduceCtorEq, Nat.reduceLT, Nat.reduceLeDiff, Int.reduceEq, Int.reduceLT, Int.reduceLE, Nat.reduceMul, Int.reduceToNat, Nat.reduceAdd, eq_false h149, eq_false h159, eq_false h169, eq_false h182, eq_false h195, eq_true h210, f_o1, f_o3, f_o145]
         obtain ⟨h216, hg⟩ := guard_some hg
         refine AppE.goM (H0 := H) (AV.int .u64) a0.c5 ([1] : List Int) (n := 17592186044416) ty27 rfl ty53 rfl rfl (by decide) (.dl 1 [.int .u64 1] .full) (wkD.refl _) (srcA_dl ty27 rfl) (.inl rfl) h216 (by decide) (by decide) hE F29 ?_
         intro tl211 H212 hE F213 p214 q215 l9
         have f_o1 := p214 _ _ (cnt _) f_o1
         have f_o3 := p214 _ _ (cnt _) f_o3
         have f_o145 := p214 _ _ (cnt _) f_o145
         obtain ⟨F8, D217⟩ := q215 _ F8 D33
         obtain ⟨F14, D218⟩ := q215 _ F14 D34
         obtain ⟨F21, D219⟩ := q215 _ F21 D35
         simp only [EVA, reduceIte, reduceCtorEq, Nat.reduceLT, Nat.reduceLeDiff, Int.reduceEq, Int.reduceLT, Int.reduceLE, Nat.reduceMul, Int.reduceToNat, Nat.reduceAdd, eq_false h149, eq_false h159, eq_false h169, eq_false h182, eq_false h195, eq_true h210, f_o1, f_o3, f_o145]
         refine eop_store_go (H0 := H) (id := o3) (off := 0) (v := .agg [.int .i64 a0.c0, .int .i64 a0.c1, .dl 1 (List.map (AV.int .i64) a0.c2) tl6, .dl 1 (List.map (AV.int .i64) a0.c3) tl12, .dl 1 (List.map (AV.int .u64) a0.c4) tl19, .dl 1 (List.map (AV.int .u64) (a0.c5 ++ ([1] : List Int))) tl211, .sl 1 o145 0 a0.c6.length]) rfl rfl f_o3 ty41 rfl rfl (Nat.le_of_ble_eq_true rfl) hE g_o3 ?_
         intro H220 hE f9_o3 p221 l9
         have F8 := F8.keep f_o3 p221
         have F14 := F14.keep f_o3 p221
         have F21 := F21.keep f_o3 p221
         have F213 := F213.keep f_o3 p221
         have f_o1 := p221 _ _ ne_o1_o3 f_o1
         have f_o145 := p221 _ _ (Ne.symm ne_o3_o145) f_o145
         have f_o3 : H220[o3]? = some (.cells ([.int .i64 a0.c0, .int .i64 a0.c1, .dl 1 (List.map (AV.int .i64) a0.c2) tl6, .dl 1 (List.map (AV.int .i64) a0.c3) tl12, .dl 1 (List.map (AV.int .u64) a0.c4) tl19, .dl 1 (List.map (AV.int .u64) (a0.c5 ++ ([1] : List Int))) tl211, .sl 1 o145 0 a0.c6.length])) := f9_o3
         obtain ⟨h222, hg⟩ := guard_some hg
         simp only [EVA, reduceIte, reduceCtorEq, Nat.reduceLT, Nat.reduceLeDiff, Int.reduceEq, Int.reduceLT, Int.reduceLE, Nat.reduceMul, Int.reduceToNat, Nat.reduceAdd, rs19, eq_false h149, eq_false h159, eq_false h169, eq_false h182, eq_false h195, eq_true h210, f_o1, f_o3, f_o145]
         obtain rfl := Option.some.inj hg
         refine .inr ⟨_, 6, o145, a0.c6.length, _, _, rfl, rfl, f_o145, by simpa using h222, frz_map (AV.int .u64) (fun _ => rfl) _, (wkR.a (wkA.agg (Wk.r (Wk.r (Wk.cons (wkV.tail _ _ _) (Wk.cons (wkV.tail _ _ _) (Wk.cons (wkV.tail _ _ _) (Wk.cons (wkV.tail _ _ _) (Wk.r Wk.nil))))))))), ?_⟩
         rw [← List.map_take]
         exact hK _ (hE.set _ g_o145)
        ·refine Br.no h210 ?_
         simp only [EVA, reduceIte, reduceCtorEq, Nat.reduceLT, Nat.reduceLeDiff, Int.reduceEq, Int.reduceLT, Int.reduceLE, Nat.reduceMul, Int.reduceToNat, Nat.reduceAdd, eq_false h149, eq_false h159, eq_false h169, eq_false h182, eq_false h195, eq_false h210, f_o1, f_o3, f_o145]
         rcases ite_some hg with ⟨h223, hg⟩ | ⟨h223, hg⟩
         ·refine Br.yes h223 ?_
          cases hg
         ·refine Br.no h223 ?_
          simp only [EVA, reduceIte, reduceCtorEq, Nat.reduceLT, Nat.reduceLeDiff, Int.reduceEq, Int.reduceLT, Int.reduceLE, Nat.reduceMul, Int.reduceToNat, Nat.reduceAdd, eq_false h149, eq_false h159, eq_false h169, eq_false h182, eq_false h195, eq_false h210, eq_false h223, f_o1, f_o3, f_o145]
          rcases ite_some hg with ⟨h224, hg⟩ | ⟨h224, hg⟩
          ·refine Br.yes h224 ?_
           simp only [EVA, reduceIte, reduceCtorEq, Nat.reduceLT, Nat.reduceLeDiff, Int.reduceEq, Int.reduceLT, Int.reduceLE, Nat.reduceMul, Int.reduceToNat, Nat.reduceAdd, eq_false h149, eq_false h159, eq_false h169, eq_false h182, eq_false h195, eq_false h210, eq_false h223, eq_true h224, f_o1, f_o3, f_o145]
           rcases ite_some hg with ⟨h225, hg⟩ | ⟨h225, hg⟩
           ·refine Br.yes h225 ?_
            obtain ⟨h226, hg⟩ := guard_some hg
            obtain ⟨h227, hg⟩ := guard_some hg
            have q228 := rdn_map0 (AV.int .u64) h227
            obtain ⟨h229, hg⟩ := guard_some hg
            simp only [EVA, reduceIte, reduceCtorEq, Nat.reduceLT, Nat.reduceLeDiff, Int.reduceEq, Int.reduceLT, Int.reduceLE, Nat.reduceMul, Int.reduceToNat, Nat.reduceAdd, eq_false h149, eq_false h159, eq_false h169, eq_false h182, eq_false h195, eq_false h210, eq_false h223, eq_true h224, eq_true h225, eq_true h226.1, eq_true h226.2, q228, eq_true h229.1, eq_true h229.2, f_o1, f_o3, f_o145]
            obtain ⟨h232, hg⟩ := guard_some hg
            refine eop_storeL_go (H0 := H) (id := o145) (off := 0) (AV.int .u64) (l := a0.c6) (v := IntKind.u64.wrap ((rdn a0.c6 0) + 1)) rfl rfl f_o145 ty53 rfl rfl rfl h232 hE g_o145 ?_
            intro H230 hE f9_o145 p231 l9
            have F8 := F8.keep f_o145 p231
            have F14 := F14.keep f_o145 p231
            have F21 := F21.keep f_o145 p231
            have F29 := F29.keep f_o145 p231
            have f_o1 := p231 _ _ ne_o1_o145 f_o1
            have f_o3 := p231 _ _ ne_o3_o145 f_o3
            have f_o145 : H230[o145]? = some (.cells (List.map (AV.int .u64) (List.set a0.c6 0 (IntKind.u64.wrap ((rdn a0.c6 0) + 1))))) := f9_o145
            simp only [EVA, reduceIte, reduceCtorEq, Nat.reduceLT, Nat.reduceLeDiff, Int.reduceEq, Int.reduceLT, Int.reduceLE, Nat.reduceMul, Int.reduceToNat, Nat.reduceAdd, eq_false h149, eq_false h159, eq_false h169, eq_false h182, eq_false h195, eq_false h210, eq_false h223, eq_true h224, eq_true h225, eq_true h226.1, eq_true h226.2, q228, eq_true h229.1, eq_true h229.2, f_o1, f_o3, f_o145]
            refine eop_store_go (H0 := H) (id := o3) (off := 0) (v := .agg [.int .i64 a0.c0, .int .i64 a0.c1, .dl 1 (List.map (AV.int .i64) a0.c2) tl6, .dl 1 (List.map (AV.int .i64) a0.c3) tl12, .dl 1 (List.map (AV.int .u64) a0.c4) tl19, .dl 1 (List.map (AV.int .u64) a0.c5) tl27, .sl 1 o145 0 a0.c6.length]) rfl rfl f_o3 ty41 rfl rfl (Nat.le_of_ble_eq_true rfl) hE g_o3 ?_
            intro H233 hE f9_o3 p234 l9
            have F8 := F8.keep f_o3 p234
            have F14 := F14.keep f_o3 p234
            have F21 := F21.keep f_o3 p234
            have F29 := F29.keep f_o3 p234
            have f_o1 := p234 _ _ ne_o1_o3 f_o1
            have f_o145 := p234 _ _ (Ne.symm ne_o3_o145) f_o145
            have f_o3 : H233[o3]? = some (.cells ([.int .i64 a0.c0, .int .i64 a0.c1, .dl 1 (List.map (AV.int .i64) a0.c2) tl6, .dl 1 (List.map (AV.int .i64) a0.c3) tl12, .dl 1 (List.map (AV.int .u64) a0.c4) tl19, .dl 1 (List.map (AV.int .u64) a0.c5) tl27, .sl 1 o145 0 a0.c6.length])) := f9_o3
            obtain ⟨h235, hg⟩ := guard_some hg
            simp only [EVA, reduceIte, reduceCtorEq, Nat.reduceLT, Nat.reduceLeDiff, Int.reduceEq, Int.reduceLT, Int.reduceLE, Nat.reduceMul, Int.reduceToNat, Nat.reduceAdd, rs19, eq_false h149, eq_false h159, eq_false h169, eq_false h182, eq_false h195, eq_false h210, eq_false h223, eq_true h224, eq_true h225, eq_true h226.1, eq_true h226.2, q228, eq_true h229.1, eq_true h229.2, f_o1, f_o3, f_o145]
            obtain rfl := Option.some.inj hg
            refine .inr ⟨_, 6, o145, a0.c6.length, _, _, rfl, rfl, f_o145, by simpa using h235, frz_map (AV.int .u64) (fun _ => rfl) _, (wkR.a (wkA.agg (Wk.r (Wk.r (Wk.cons (wkV.tail _ _ _) (Wk.cons (wkV.tail _ _ _) (Wk.cons (wkV.tail _ _ _) (Wk.cons (wkV.tail _ _ _) (Wk.r Wk.nil))))))))), ?_⟩
            rw [← List.map_take]
            exact hK _ (hE.set _ g_o145)
           ·refine Br.no h225 ?_
            simp only [EVA, reduceIte, reduceCtorEq, Nat.reduceLT, Nat.reduceLeDiff, Int.reduceEq, Int.reduceLT, Int.reduceLE, Nat.reduceMul, Int.reduceToNat, Nat.reduceAdd, eq_false h149, eq_false h159, eq_false h169, eq_false h182, eq_false h195, eq_false h210, eq_false h223, eq_true h224, eq_false h225, f_o1, f_o3, f_o145]
            refine eop_store_go (H0 := H) (id := o3) (off := 0) (v := .agg [.int .i64 a0.c0, .int .i64 a0.c1, .dl 1 (List.map (AV.int .i64) a0.c2) tl6, .dl 1 (List.map (AV.int .i64) a0.c3) tl12, .dl 1 (List.map (AV.int .u64) a0.c4) tl19, .dl 1 (List.map (AV.int .u64) a0.c5) tl27, .sl 1 o145 0 a0.c6.length]) rfl rfl f_o3 ty41 rfl rfl (Nat.le_of_ble_eq_true rfl) hE g_o3 ?_
            intro H236 hE f9_o3 p237 l9
            have F8 := F8.keep f_o3 p237
            have F14 := F14.keep f_o3 p237
            have F21 := F21.keep f_o3 p237
            have F29 := F29.keep f_o3 p237
            have f_o1 := p237 _ _ ne_o1_o3 f_o1
            have f_o145 := p237 _ _ (Ne.symm ne_o3_o145) f_o145
            have f_o3 : H236[o3]? = some (.cells ([.int .i64 a0.c0, .int .i64 a0.c1, .dl 1 (List.map (AV.int .i64) a0.c2) tl6, .dl 1 (List.map (AV.int .i64) a0.c3) tl12, .dl 1 (List.map (AV.int .u64) a0.c4) tl19, .dl 1 (List.map (AV.int .u64) a0.c5) tl27, .sl 1 o145 0 a0.c6.length])) := f9_o3
            obtain ⟨h238, hg⟩ := guard_some hg
            simp only [EVA, reduceIte, reduceCtorEq, Nat.reduceLT, Nat.reduceLeDiff, Int.reduceEq, Int.reduceLT, Int.reduceLE, Nat.reduceMul, Int.reduceToNat, Nat.reduceAdd, rs19, eq_false h149, eq_false h159, eq_false h169, eq_false h182, eq_false h195, eq_false h210, eq_false h223, eq_true h224, eq_false h225, f_o1, f_o3, f_o145]
            obtain rfl := Option.some.inj hg
            refine .inr ⟨_, 6, o145, a0.c6.length, _, _, rfl, rfl, f_o145, by simpa using h238, frz_map (AV.int .u64) (fun _ => rfl) _, (wkR.a (wkA.agg (Wk.r (Wk.r (Wk.cons (wkV.tail _ _ _) (Wk.cons (wkV.tail _ _ _) (Wk.cons (wkV.tail _ _ _) (Wk.cons (wkV.tail _ _ _) (Wk.r Wk.nil))))))))), ?_⟩
            rw [← List.map_take]
            exact hK _ (hE.set _ g_o145)
          ·refine Br.no h224 ?_
           simp only [EVA, reduceIte, reduceCtorEq, Nat.reduceLT, Nat.reduceLeDiff, Int.reduceEq, Int.reduceLT, Int.reduceLE, Nat.reduceMul, Int.reduceToNat, Nat.reduceAdd, eq_false h149, eq_false h159, eq_false h169, eq_false h182, eq_false h195, eq_false h210, eq_false h223, eq_false h224, f_o1, f_o3, f_o145]
           rcases ite_some hg with ⟨h239, hg⟩ | ⟨h239, hg⟩
           ·refine Br.yes h239 ?_
            simp only [EVA, reduceIte, reduceCtorEq, Nat.reduceLT, Nat.reduceLeDiff, Int.reduceEq, Int.reduceLT, Int.reduceLE, Nat.reduceMul, Int.reduceToNat, Nat.reduceAdd, eq_false h149, eq_false h159, eq_false h169, eq_false h182, eq_false h195, eq_false h210, eq_false h223, eq_false h224, eq_true h239, f_o1, f_o3, f_o145]
            rcases ite_some hg with ⟨h240, hg⟩ | ⟨h240, hg⟩
            ·refine Br.yes h240 ?_
             cases hg
            ·refine Br.no h240 ?_
             simp only [EVA, reduceIte, reduceCtorEq, Nat.reduceLT, Nat.reduceLeDiff, Int.reduceEq, Int.reduceLT, Int.reduceLE, Nat.reduceMul, Int.reduceToNat, Nat.reduceAdd, eq_false h149, eq_false h159, eq_false h169, eq_false h182, eq_false h195, eq_false h210, eq_false h223, eq_false h224, eq_true h239, eq_false h240, f_o1, f_o3, f_o145]
             refine eop_store_go (H0 := H) (id := o3) (off := 0) (v := .agg [.int .i64 a0.c0, .int .i64 a0.c1, .dl 1 (List.map (AV.int .i64) a0.c2) tl6, .dl 1 (List.map (AV.int .i64) a0.c3) tl12, .dl 1 (List.map (AV.int .u64) a0.c4) tl19, .dl 1 (List.map (AV.int .u64) a0.c5) tl27, .sl 1 o145 0 a0.c6.length]) rfl rfl f_o3 ty41 rfl rfl (Nat.le_of_ble_eq_true rfl) hE g_o3 ?_
             intro H241 hE f9_o3 p242 l9
             have F8 := F8.keep f_o3 p242
             have F14 := F14.keep f_o3 p242
             have F21 := F21.keep f_o3 p242
             have F29 := F29.keep f_o3 p242
             have f_o1 := p242 _ _ ne_o1_o3 f_o1
             have f_o145 := p242 _ _ (Ne.symm ne_o3_o145) f_o145
             have f_o3 : H241[o3]? = some (.cells ([.int .i64 a0.c0, .int .i64 a0.c1, .dl 1 (List.map (AV.int .i64) a0.c2) tl6, .dl 1 (List.map (AV.int .i64) a0.c3) tl12, .dl 1 (List.map (AV.int .u64) a0.c4) tl19, .dl 1 (List.map (AV.int .u64) a0.c5) tl27, .sl 1 o145 0 a0.c6.length])) := f9_o3
             obtain ⟨h243, hg⟩ := guard_some hg
             simp only [EVA, reduceIte, reduceCtorEq, Nat.reduceLT, Nat.reduceLeDiff, Int.reduceEq, Int.reduceLT, Int.reduceLE, Nat.reduceMul, Int.reduceToNat, Nat.reduceAdd, rs19, eq_false h149, eq_false h159, eq_false h169, eq_false h182, eq_false h195, eq_false h210, eq_false h223, eq_false h224, eq_true h239, eq_false h240, f_o1, f_o3, f_o145]
             obtain rfl := Option.some.inj hg
             refine .inr ⟨_, 6, o145, a0.c6.length, _, _, rfl, rfl, f_o145, by simpa using h243, frz_map (AV.int .u64) (fun _ => rfl) _, (wkR.a (wkA.agg (Wk.r (Wk.r (Wk.cons (wkV.tail _ _ _) (Wk.cons (wkV.tail _ _ _) (Wk.cons (wkV.tail _ _ _) (Wk.cons (wkV.tail _ _ _) (Wk.r Wk.nil))))))))), ?_⟩
             rw [← List.map_take]
             exact hK _ (hE.set _ g_o145)
           ·refine Br.no h239 ?_
            simp only [EVA, reduceIte, reduceCtorEq, Nat.reduceLT, Nat.reduceLeDiff, Int.reduceEq, Int.reduceLT, Int.reduceLE, Nat.reduceMul, Int.reduceToNat, Nat.reduceAdd, eq_false h149, eq_false h159, eq_false h169, eq_false h182, eq_false h195, eq_false h210, eq_false h223, eq_false h224, eq_false h239, f_o1, f_o3, f_o145]
            refine eop_store_go (H0 := H) (id := o3) (off := 0) (v := .agg [.int .i64 a0.c0, .int .i64 a0.c1, .dl 1 (List.map (AV.int .i64) a0.c2) tl6, .dl 1 (List.map (AV.int .i64) a0.c3) tl12, .dl 1 (List.map (AV.int .u64) a0.c4) tl19, .dl 1 (List.map (AV.int .u64) a0.c5) tl27, .sl 1 o145 0 a0.c6.length]) rfl rfl f_o3 ty41 rfl rfl (Nat.le_of_ble_eq_true rfl) hE g_o3 ?_
            intro H244 hE f9_o3 p245 l9
            have F8 := F8.keep f_o3 p245
            have F14 := F14.keep f_o3 p245
            have F21 := F21.keep f_o3 p245
            have F29 := F29.keep f_o3 p245
            have f_o1 := p245 _ _ ne_o1_o3 f_o1
            have f_o145 := p245 _ _ (Ne.symm ne_o3_o145) f_o145
            have f_o3 : H244[o3]? = some (.cells ([.int .i64 a0.c0, .int .i64 a0.c1, .dl 1 (List.map (AV.int .i64) a0.c2) tl6, .dl 1 (List.map (AV.int .i64) a0.c3) tl12, .dl 1 (List.map (AV.int .u64) a0.c4) tl19, .dl 1 (List.map (AV.int .u64) a0.c5) tl27, .sl 1 o145 0 a0.c6.length])) := f9_o3
            obtain ⟨h246, hg⟩ := guard_some hg
            simp only [EVA, reduceIte, reduceCtorEq, Nat.reduceLT, Nat.reduceLeDiff, Int.reduceEq, Int.reduceLT, Int.reduceLE, Nat.reduceMul, Int.reduceToNat, Nat.reduceAdd, rs19, eq_false h149, eq_false h159, eq_false h169, eq_false h182, eq_false h195, eq_false h210, eq_false h223, eq_false h224, eq_false h239, f_o1, f_o3, f_o145]
            obtain rfl := Option.some.inj hg
            refine .inr ⟨_, 6, o145, a0.c6.length, _, _, rfl, rfl, f_o145, by simpa using h246, frz_map (AV.int .u64) (fun _ => rfl) _, (wkR.a (wkA.agg (Wk.r (Wk.r (Wk.cons (wkV.tail _ _ _) (Wk.cons (wkV.tail _ _ _) (Wk.cons (wkV.tail _ _ _) (Wk.cons (wkV.tail _ _ _) (Wk.r Wk.nil))))))))), ?_⟩
            rw [← List.map_take]
            exact hK _ (hE.set _ g_o145)
  ·obtain ⟨h42, hg⟩ := guard_some hg
   refine AppE.goM (H0 := H) (AV.int .u64) ([] : List Int) a0.c6 (n := 17592186044416) ty27 rfl ty53 rfl rfl (by decide) (.dl 1 (List.map (AV.int .u64) a0.c6) .none) (wkD.refl _) (srcA_dl ty27 rfl) (.inl rfl) h42 (by decide) (by decide) hE (Free.full _ _) ?_
   intro tl37 H38 hE F39 p40 q41 l9
   have f_o1 := p40 _ _ (cnt _) f_o1
   have f_o3 := p40 _ _ (cnt _) f_o3
   obtain ⟨F8, D43⟩ := q41 _ F8 (tlNe.full _)
   obtain ⟨F14, D44⟩ := q41 _ F14 (tlNe.full _)
   obtain ⟨F21, D45⟩ := q41 _ F21 (tlNe.full _)
   obtain ⟨F29, D46⟩ := q41 _ F29 (tlNe.full _)
   simp only [EVA, reduceIte, reduceCtorEq, Nat.reduceLT, Nat.reduceLeDiff, Int.reduceEq, Int.reduceLT, Int.reduceLE, Nat.reduceMul, Int.reduceToNat, Nat.reduceAdd, f_o1, f_o3]
   obtain ⟨v47, ch48, hg⟩ := bind_some hg
   refine ACall.wkA (args := [.int .i64 a1, .int .i64 9]) (c7 B w0 n a1 9 _ _ v47 ch48  ?_) (WkA.r (WkA.r WkA.nil))
   simp only [EVA, reduceIte, reduceCtorEq, Nat.reduceLT, Nat.reduceLeDiff, Int.reduceEq, Int.reduceLT, Int.reduceLE, Nat.reduceMul, Int.reduceToNat, Nat.reduceAdd, f_o1, f_o3]
   rcases ite_some hg with ⟨h49, hg⟩ | ⟨h49, hg⟩
   ·refine Br.yes h49 ?_
    simp only [EVA, reduceIte, reduceCtorEq, Nat.reduceLT, Nat.reduceLeDiff, Int.reduceEq, Int.reduceLT, Int.reduceLE, Nat.reduceMul, Int.reduceToNat, Nat.reduceAdd, eq_true h49, f_o1, f_o3]
    obtain ⟨v50, ch51, hg⟩ := bind_some hg
    refine ACall.wkA (args := [.int .i64 a2, .int .i64 4]) (c7 B w0 n a2 4 _ _ v50 ch51  ?_) (WkA.r (WkA.r WkA.nil))
    obtain ⟨h52, hg⟩ := guard_some hg
    have q53 : List.getD ([.int .i64 a2, .int .i64 (-1), .int .i64 4095, .int .i64 4096]) (Int.toNat v50) AV.undef = (AV.int .i64) (rd ([a2, (-1), 4095, 4096] : List Int) v50) := rd_map (l := ([a2, (-1), 4095, 4096] : List Int)) (i := v50) (AV.int .i64) ⟨h52.1, by simp only [List.length_cons, List.length_nil]; omega⟩
    simp only [EVA, reduceIte, reduceCtorEq, Nat.reduceLT, Nat.reduceLeDiff, Int.reduceEq, Int.reduceLT, Int.reduceLE, Nat.reduceMul, Int.reduceToNat, Nat.reduceAdd, eq_true h49, eq_true h52.1, eq_true h52.2, q53, f_o1, f_o3]
    refine eop_store_go (H0 := H) (id := o1) (off := 0) (v := .int .i64 (rd ([a2, (-1), 4095, 4096] : List Int) v50)) rfl rfl f_o1 ty3 rfl rfl (Nat.le_of_ble_eq_true rfl) hE g_o1 ?_
    intro H54 hE f9_o1 p55 l9
    have F8 := F8.keep f_o1 p55
    have F14 := F14.keep f_o1 p55
    have F21 := F21.keep f_o1 p55
    have F29 := F29.keep f_o1 p55
    have F39 := F39.keep f_o1 p55
    have f_o3 := p55 _ _ (Ne.symm ne_o1_o3) f_o3
    have f_o1 : H54[o1]? = some (.cells ([.int .i64 (rd ([a2, (-1), 4095, 4096] : List Int) v50), .int .i64 a0.c1, .dl 1 (List.map (AV.int .i64) a0.c2) .none, .dl 1 (List.map (AV.int .i64) a0.c3) .none, .dl 1 (List.map (AV.int .u64) a0.c4) .none, .dl 1 (List.map (AV.int .u64) a0.c5) .none, .dl 1 (List.map (AV.int .u64) a0.c6) .none])) := f9_o1
    simp only [EVA, reduceIte, reduceCtorEq, Nat.reduceLT, Nat.reduceLeDiff, Int.reduceEq, Int.reduceLT, Int.reduceLE, Nat.reduceMul, Int.reduceToNat, Nat.reduceAdd, eq_true h49, eq_true h52.1, eq_true h52.2, q53, f_o1, f_o3]
    refine eop_store_go (H0 := H) (id := o3) (off := 0) (v := .agg [.int .i64 (rd ([a2, (-1), 4095, 4096] : List Int) v50), .int .i64 a0.c1, .dl 1 (List.map (AV.int .i64) a0.c2) tl6, .dl 1 (List.map (AV.int .i64) a0.c3) tl12, .dl 1 (List.map (AV.int .u64) a0.c4) tl19, .dl 1 (List.map (AV.int .u64) a0.c5) tl27, .dl 1 (List.map (AV.int .u64) a0.c6) tl37]) rfl rfl f_o3 ty41 rfl rfl (Nat.le_of_ble_eq_true rfl) hE g_o3 ?_
    intro H56 hE f9_o3 p57 l9
    have F8 := F8.keep f_o3 p57
    have F14 := F14.keep f_o3 p57
    have F21 := F21.keep f_o3 p57
    have F29 := F29.keep f_o3 p57
    have F39 := F39.keep f_o3 p57
    have f_o1 := p57 _ _ ne_o1_o3 f_o1
    have f_o3 : H56[o3]? = some (.cells ([.int .i64 (rd ([a2, (-1), 4095, 4096] : List Int) v50), .int .i64 a0.c1, .dl 1 (List.map (AV.int .i64) a0.c2) tl6, .dl 1 (List.map (AV.int .i64) a0.c3) tl12, .dl 1 (List.map (AV.int .u64) a0.c4) tl19, .dl 1 (List.map (AV.int .u64) a0.c5) tl27, .dl 1 (List.map (AV.int .u64) a0.c6) tl37])) := f9_o3
    simp only [EVA, reduceIte, reduceCtorEq, Nat.reduceLT, Nat.reduceLeDiff, Int.reduceEq, Int.reduceLT, Int.reduceLE, Nat.reduceMul, Int.reduceToNat, Nat.reduceAdd, rs19, eq_true h49, eq_true h52.1, eq_true h52.2, q53, f_o1, f_o3]
    obtain rfl := Option.some.inj hg
    exact .inl ⟨_, (wkR.a (wkA.agg (by repeat' first | exact Wk.nil | apply Wk.u | apply Wk.r | apply Wk.cons (wkV.tail _ _ _)))), hK _ hE⟩
   ·refine Br.no h49 ?_
    simp only [EVA, reduceIte, reduceCtorEq, Nat.reduceLT, Nat.reduceLeDiff, Int.reduceEq, Int.reduceLT, Int.reduceLE, Nat.reduceMul, Int.reduceToNat, Nat.reduceAdd, eq_false h49, f_o1, f_o3]
    rcases ite_some hg with ⟨h58, hg⟩ | ⟨h58, hg⟩
    ·refine Br.yes h58 ?_
     simp only [EVA, reduceIte, reduceCtorEq, Nat.reduceLT, Nat.reduceLeDiff, Int.reduceEq, Int.reduceLT, Int.reduceLE, Nat.reduceMul, Int.reduceToNat, Nat.reduceAdd, eq_false h49, eq_true h58, f_o1, f_o3]
     obtain ⟨v59, ch60, hg⟩ := bind_some hg
     refine ACall.wkA (args := [.int .i64 a2, .int .i64 4]) (c7 B w0 n a2 4 _ _ v59 ch60  ?_) (WkA.r (WkA.r WkA.nil))
     obtain ⟨h61, hg⟩ := guard_some hg
     have q62 : List.getD ([.int .i64 a2, .int .i64 (-1), .int .i64 1099511627776, .int .i64 1099511627777]) (Int.toNat v59) AV.undef = (AV.int .i64) (rd ([a2, (-1), 1099511627776, 1099511627777] : List Int) v59) := rd_map (l := ([a2, (-1), 1099511627776, 1099511627777] : List Int)) (i := v59) (AV.int .i64) ⟨h61.1, by simp only [List.length_cons, List.length_nil]; omega⟩
     simp only [EVA, reduceIte, reduceCtorEq, Nat.reduceLT, Nat.reduceLeDiff, Int.reduceEq, Int.reduceLT, Int.reduceLE, Nat.reduceMul, Int.reduceToNat, Nat.reduceAdd, eq_false h49, eq_true h58, eq_true h61.1, eq_true h61.2, q62, f_o1, f_o3]
     refine eop_store_go (H0 := H) (id := o1) (off := 1) (v := .int .i64 (rd ([a2, (-1), 1099511627776, 1099511627777] : List Int) v59)) rfl rfl f_o1 ty3 rfl rfl (Nat.le_of_ble_eq_true rfl) hE g_o1 ?_
     intro H63 hE f9_o1 p64 l9
     have F8 := F8.keep f_o1 p64
     have F14 := F14.keep f_o1 p64
     have F21 := F21.keep f_o1 p64
     have F29 := F29.keep f_o1 p64
     have F39 := F39.keep f_o1 p64
     have f_o3 := p64 _ _ (Ne.symm ne_o1_o3) f_o3
     have f_o1 : H63[o1]? = some (.cells ([.int .i64 a0.c0, .int .i64 (rd ([a2, (-1), 1099511627776, 1099511627777] : List Int) v59), .dl 1 (List.map (AV.int .i64) a0.c2) .none, .dl 1 (List.map (AV.int .i64) a0.c3) .none, .dl 1 (List.map (AV.int .u64) a0.c4) .none, .dl 1 (List.map (AV.int .u64) a0.c5) .none, .dl 1 (List.map (AV.int .u64) a0.c6) .none])) := f9_o1
     simp only [EVA, reduceIte, reduceCtorEq, Nat.reduceLT, Nat.reduceLeDiff, Int.reduceEq, Int.reduceLT, Int.reduceLE, Nat.reduceMul, Int.reduceToNat, Nat.reduceAdd, eq_false h49, eq_true h58, eq_true h61.1, eq_true h61.2, q62, f_o1, f_o3]
     refine eop_store_go (H0 := H) (id := o3) (off := 0) (v := .agg [.int .i64 a0.c0, .int .i64 (rd ([a2, (-1), 1099511627776, 1099511627777] : List Int) v59), .dl 1 (List.map (AV.int .i64) a0.c2) tl6, .dl 1 (List.map (AV.int .i64) a0.c3) tl12, .dl 1 (List.map (AV.int .u64) a0.c4) tl19, .dl 1 (List.map (AV.int .u64) a0.c5) tl27, .dl 1 (List.map (AV.int .u64) a0.c6) tl37]) rfl rfl f_o3 ty41 rfl rfl (Nat.le_of_ble_eq_true rfl) hE g_o3 ?_
     intro H65 hE f9_o3 p66 l9
     have F8 := F8.keep f_o3 p66
     have F14 := F14.keep f_o3 p66
     have F21 := F21.keep f_o3 p66
     have F29 := F29.keep f_o3 p66
     have F39 := F39.keep f_o3 p66
     have f_o1 := p66 _ _ ne_o1_o3 f_o1
     have f_o3 : H65[o3]? = some (.cells ([.int .i64 a0.c0, .int .i64 (rd ([a2, (-1), 1099511627776, 1099511627777] : List Int) v59), .dl 1 (List.map (AV.int .i64) a0.c2) tl6, .dl 1 (List.map (AV.int .i64) a0.c3) tl12, .dl 1 (List.map (AV.int .u64) a0.c4) tl19, .dl 1 (List.map (AV.int .u64) a0.c5) tl27, .dl 1 (List.map (AV.int .u64) a0.c6) tl37])) := f9_o3
     simp only [EVA, reduceIte, reduceCtorEq, Nat.reduceLT, Nat.reduceLeDiff, Int.reduceEq, Int.reduceLT, Int.reduceLE, Nat.reduceMul, Int.reduceToNat, Nat.reduceAdd, rs19, eq_false h49, eq_true h58, eq_true h61.1, eq_true h61.2, q62, f_o1, f_o3]
     obtain rfl := Option.some.inj hg
     exact .inl ⟨_, (wkR.a (wkA.agg (by repeat' first | exact Wk.nil | apply Wk.u | apply Wk.r | apply Wk.cons (wkV.tail _ _ _)))), hK _ hE⟩
    ·refine Br.no h58 ?_
     simp only [EVA, reduceIte, reduceCtorEq, Nat.reduceLT, Nat.reduceLeDiff, Int.reduceEq, Int.reduceLT, Int.reduceLE, Nat.reduceMul, Int.reduceToNat, Nat.reduceAdd, eq_false h49, eq_false h58, f_o1, f_o3]
     rcases ite_some hg with ⟨h67, hg⟩ | ⟨h67, hg⟩
     ·refine Br.yes h67 ?_
      simp only [EVA, reduceIte, reduceCtorEq, Nat.reduceLT, Nat.reduceLeDiff, Int.reduceEq, Int.reduceLT, Int.reduceLE, Nat.reduceMul, Int.reduceToNat, Nat.reduceAdd, eq_false h49, eq_false h58, eq_true h67, f_o1, f_o3]
      obtain ⟨h73, hg⟩ := guard_some hg
      refine AppE.goM (H0 := H) (AV.int .i64) a0.c2 ([a2] : List Int) (n := 17592186044416) ty22 rfl ty3 rfl rfl (by decide) (.dl 1 [.int .i64 a2] .full) (wkD.refl _) (srcA_dl ty22 rfl) (.inl rfl) h73 (by decide) (by decide) hE F8 ?_
      intro tl68 H69 hE F70 p71 q72 l9
      have f_o1 := p71 _ _ (cnt _) f_o1
      have f_o3 := p71 _ _ (cnt _) f_o3
      obtain ⟨F14, D74⟩ := q72 _ F14 D18.symm
      obtain ⟨F21, D75⟩ := q72 _ F21 D25.symm
      obtain ⟨F29, D76⟩ := q72 _ F29 D33.symm
      obtain ⟨F39, D77⟩ := q72 _ F39 D43.symm
      simp only [EVA, reduceIte, reduceCtorEq, Nat.reduceLT, Nat.reduceLeDiff, Int.reduceEq, Int.reduceLT, Int.reduceLE, Nat.reduceMul, Int.reduceToNat, Nat.reduceAdd, eq_false h49, eq_false h58, eq_true h67, f_o1, f_o3]
      refine eop_store_go (H0 := H) (id := o3) (off := 0) (v := .agg [.int .i64 a0.c0, .int .i64 a0.c1, .dl 1 (List.map (AV.int .i64) (a0.c2 ++ ([a2] : List Int))) tl68, .dl 1 (List.map (AV.int .i64) a0.c3) tl12, .dl 1 (List.map (AV.int .u64) a0.c4) tl19, .dl 1 (List.map (AV.int .u64) a0.c5) tl27, .dl 1 (List.map (AV.int .u64) a0.c6) tl37]) rfl rfl f_o3 ty41 rfl rfl (Nat.le_of_ble_eq_true rfl) hE g_o3 ?_
      intro H78 hE f9_o3 p79 l9
      have F14 := F14.keep f_o3 p79
      have F21 := F21.keep f_o3 p79
      have F29 := F29.keep f_o3 p79
      have F39 := F39.keep f_o3 p79
      have F70 := F70.keep f_o3 p79
      have f_o1 := p79 _ _ ne_o1_o3 f_o1
      have f_o3 : H78[o3]? = some (.cells ([.int .i64 a0.c0, .int .i64 a0.c1, .dl 1 (List.map (AV.int .i64) (a0.c2 ++ ([a2] : List Int))) tl68, .dl 1 (List.map (AV.int .i64) a0.c3) tl12, .dl 1 (List.map (AV.int .u64) a0.c4) tl19, .dl 1 (List.map (AV.int .u64) a0.c5) tl27, .dl 1 (List.map (AV.int .u64) a0.c6) tl37])) := f9_o3
      simp only [EVA, reduceIte, reduceCtorEq, Nat.reduceLT, Nat.reduceLeDiff, Int.reduceEq, Int.reduceLT, Int.reduceLE, Nat.reduceMul, Int.reduceToNat, Nat.reduceAdd, rs19, eq_false h49, eq_false h58, eq_true h67, f_o1, f_o3]
      obtain rfl := Option.some.inj hg
      exact .inl ⟨_, (wkR.a (wkA.agg (by repeat' first | exact Wk.nil | apply Wk.u | apply Wk.r | apply Wk.cons (wkV.tail _ _ _)))), hK _ hE⟩
     ·refine Br.no h67 ?_
      simp only [EVA, reduceIte, reduceCtorEq, Nat.reduceLT, Nat.reduceLeDiff, Int.reduceEq, Int.reduceLT, Int.reduceLE, Nat.reduceMul, Int.reduceToNat, Nat.reduceAdd, eq_false h49, eq_false h58, eq_false h67, f_o1, f_o3]
      rcases ite_some hg with ⟨h80, hg⟩ | ⟨h80, hg⟩
      ·refine Br.yes h80 ?_
       simp only [EVA, reduceIte, reduceCtorEq, Nat.reduceLT, Nat.reduceLeDiff, Int.reduceEq, Int.reduceLT, Int.reduceLE, Nat.reduceMul, Int.reduceToNat, Nat.reduceAdd, eq_false h49, eq_false h58, eq_false h67, eq_true h80, f_o1, f_o3]
       obtain ⟨h86, hg⟩ := guard_some hg
       refine AppE.goM (H0 := H) (AV.int .i64) a0.c3 ([a2] : List Int) (n := 17592186044416) ty22 rfl ty3 rfl rfl (by decide) (.dl 1 [.int .i64 a2] .full) (wkD.refl _) (srcA_dl ty22 rfl) (.inl rfl) h86 (by decide) (by decide) hE F14 ?_
       intro tl81 H82 hE F83 p84 q85 l9
       have f_o1 := p84 _ _ (cnt _) f_o1
       have f_o3 := p84 _ _ (cnt _) f_o3
       obtain ⟨F8, D87⟩ := q85 _ F8 D18
       obtain ⟨F21, D88⟩ := q85 _ F21 D26.symm
       obtain ⟨F29, D89⟩ := q85 _ F29 D34.symm
       obtain ⟨F39, D90⟩ := q85 _ F39 D44.symm
       simp only [EVA, reduceIte, reduceCtorEq, Nat.reduceLT, Nat.reduceLeDiff, Int.reduceEq, Int.reduceLT, Int.reduceLE, Nat.reduceMul, Int.reduceToNat, Nat.reduceAdd, eq_false h49, eq_false h58, eq_false h67, eq_true h80, f_o1, f_o3]
       refine eop_store_go (H0 := H) (id := o3) (off := 0) (v := .agg [.int .i64 a0.c0, .int .i64 a0.c1, .dl 1 (List.map (AV.int .i64) a0.c2) tl6, .dl 1 (List.map (AV.int .i64) (a0.c3 ++ ([a2] : List Int))) tl81, .dl 1 (List.map (AV.int .u64) a0.c4) tl19, .dl 1 (List.map (AV.int .u64) a0.c5) tl27, .dl 1 (List.map (AV.int .u64) a0.c6) tl37]) rfl rfl f_o3 ty41 rfl rfl (Nat.le_of_ble_eq_true rfl) hE g_o3 ?_
       intro H91 hE f9_o3 p92 l9
       have F8 := F8.keep f_o3 p92
       have F21 := F21.keep f_o3 p92
       have F29 := F29.keep f_o3 p92
       have F39 := F39.keep f_o3 p92
       have F83 := F83.keep f_o3 p92
       have f_o1 := p92 _ _ ne_o1_o3 f_o1
       have f_o3 : H91[o3]? = some (.cells ([.int .i64 a0.c0, .int .i64 a0.c1, .dl 1 (List.map (AV.int .i64) a0.c2) tl6, .dl 1 (List.map (AV.int .i64) (a0.c3 ++ ([a2] : List Int))) tl81, .dl 1 (List.map (AV.int .u64) a0.c4) tl19, .dl 1 (List.map (AV.int .u64) a0.c5) tl27, .dl 1 (List.map (AV.int .u64) a0.c6) tl37])) := f9_o3
       simp only [EVA, reduceIte, reduceCtorEq, Nat.reduceLT, Nat.reduceLeDiff, Int.reduceEq, Int.reduceLT, Int.reduceLE, Nat.reduceMul, Int.reduceToNat, Nat.reduceAdd, rs19, eq_false h49, eq_false h58, eq_false h67, eq_true h80, f_o1, f_o3]
       obtain rfl := Option.some.inj hg
       exact .inl ⟨_, (wkR.a (wkA.agg (by repeat' first | exact Wk.nil | apply Wk.u | apply Wk.r | apply Wk.cons (wkV.tail _ _ _)))), hK _ hE⟩
      ·refine Br.no h80 ?_
       simp only [EVA, reduceIte, reduceCtorEq, Nat.reduceLT, Nat.reduceLeDiff, Int.reduceEq, Int.reduceLT, Int.reduceLE, Nat.reduceMul, Int.reduceToNat, Nat.reduceAdd, eq_false h49, eq_false h58, eq_false h67, eq_false h80, f_o1, f_o3]
       rcases ite_some hg with ⟨h93, hg⟩ | ⟨h93, hg⟩
       ·refine Br.yes h93 ?_
        simp only [EVA, reduceIte, reduceCtorEq, Nat.reduceLT, Nat.reduceLeDiff, Int.reduceEq, Int.reduceLT, Int.reduceLE, Nat.reduceMul, Int.reduceToNat, Nat.reduceAdd, eq_false h49, eq_false h58, eq_false h67, eq_false h80, eq_true h93, f_o1, f_o3]
        obtain ⟨v94, ch95, hg⟩ := bind_some hg
        refine ACall.wkA (args := [.int .i64 a2, .int .i64 30]) (c7 B w0 n a2 30 _ _ v94 ch95  ?_) (WkA.r (WkA.r WkA.nil))
        simp only [EVA, reduceIte, reduceCtorEq, Nat.reduceLT, Nat.reduceLeDiff, Int.reduceEq, Int.reduceLT, Int.reduceLE, Nat.reduceMul, Int.reduceToNat, Nat.reduceAdd, eq_false h49, eq_false h58, eq_false h67, eq_false h80, eq_true h93, f_o1, f_o3]
        obtain ⟨h101, hg⟩ := guard_some hg
        refine AppE.goM (H0 := H) (AV.int .u64) a0.c4 ([IntKind.u64.wrap v94] : List Int) (n := 17592186044416) ty27 rfl ty53 rfl rfl (by decide) (.dl 1 [.int .u64 (IntKind.u64.wrap v94)] .full) (wkD.refl _) (srcA_dl ty27 rfl) (.inl rfl) h101 (by decide) (by decide) hE F21 ?_
        intro tl96 H97 hE F98 p99 q100 l9
        have f_o1 := p99 _ _ (cnt _) f_o1
        have f_o3 := p99 _ _ (cnt _) f_o3
        obtain ⟨F8, D102⟩ := q100 _ F8 D25
        obtain ⟨F14, D103⟩ := q100 _ F14 D26
        obtain ⟨F29, D104⟩ := q100 _ F29 D35.symm
        obtain ⟨F39, D105⟩ := q100 _ F39 D45.symm
        simp only [EVA, reduceIte, reduceCtorEq, Nat.reduceLT, Nat.reduceLeDiff, Int.reduceEq, Int.reduceLT, Int.reduceLE, Nat.reduceMul, Int.reduceToNat, Nat.reduceAdd, eq_false h49, eq_false h58, eq_false h67, eq_false h80, eq_true h93, f_o1, f_o3]
        refine eop_store_go (H0 := H) (id := o3) (off := 0) (v := .agg [.int .i64 a0.c0, .int .i64 a0.c1, .dl 1 (List.map (AV.int .i64) a0.c2) tl6, .dl 1 (List.map (AV.int .i64) a0.c3) tl12, .dl 1 (List.map (AV.int .u64) (a0.c4 ++ ([IntKind.u64.wrap v94] : List Int))) tl96, .dl 1 (List.map (AV.int .u64) a0.c5) tl27, .dl 1 (List.map (AV.int .u64) a0.c6) tl37]) rfl rfl f_o3 ty41 rfl rfl (Nat.le_of_ble_eq_true rfl) hE g_o3 ?_
        intro H106 hE f9_o3 p107 l9
        have F8 := F8.keep f_o3 p107
        have F14 := F14.keep f_o3 p107
        have F29 := F29.keep f_o3 p107
        have F39 := F39.keep f_o3 p107
        have F98 := F98.keep f_o3 p107
        have f_o1 := p107 _ _ ne_o1_o3 f_o1
        have f_o3 : H106[o3]? = some (.cells ([.int .i64 a0.c0, .int .i64 a0.c1, .dl 1 (List.map (AV.int .i64) a0.c2) tl6, .dl 1 (List.map (AV.int .i64) a0.c3) tl12, .dl 1 (List.map (AV.int .u64) (a0.c4 ++ ([IntKind.u64.wrap v94] : List Int))) tl96, .dl 1 (List.map (AV.int .u64) a0.c5) tl27, .dl 1 (List.map (AV.int .u64) a0.c6) tl37])) := f9_o3
        simp only [EVA, reduceIte, reduceCtorEq, Nat.reduceLT, Nat.reduceLeDiff, Int.reduceEq, Int.reduceLT, Int.reduceLE, Nat.reduceMul, Int.reduceToNat, Nat.reduceAdd, rs19, eq_false h49, eq_false h58, eq_false h67, eq_false h80, eq_true h93, f_o1, f_o3]
        obtain rfl := Option.some.inj hg
        exact .inl ⟨_, (wkR.a (wkA.agg (by repeat' first | exact Wk.nil | apply Wk.u | apply Wk.r | apply Wk.cons (wkV.tail _ _ _)))), hK _ hE⟩
       ·refine Br.no h93 ?_
        simp only [EVA, reduceIte, reduceCtorEq, Nat.reduceLT, Nat.reduceLeDiff, Int.reduceEq, Int.reduceLT, Int.reduceLE, Nat.reduceMul, Int.reduceToNat, Nat.reduceAdd, eq_false h49, eq_false h58, eq_false h67, eq_false h80, eq_false h93, f_o1, f_o3]
        rcases ite_some hg with ⟨h108, hg⟩ | ⟨h108, hg⟩
        ·refine Br.yes h108 ?_
         simp only [EVA, reduceIte, reduceCtorEq, Nat.reduceLT, Nat.reduceLeDiff, Int.reduceEq, Int.reduceLT, Int.reduceLE, Nat.reduceMul, Int.reduceToNat, Nat.reduceAdd, eq_false h49, eq_false h58, eq_false h67, eq_false h80, eq_false h93, eq_true h108, f_o1, f_o3]
         obtain ⟨h114, hg⟩ := guard_some hg
         refine AppE.goM (H0 := H) (AV.int .u64) a0.c5 ([1] : List Int) (n := 17592186044416) ty27 rfl ty53 rfl rfl (by decide) (.dl 1 [.int .u64 1] .full) (wkD.refl _) (srcA_dl ty27 rfl) (.inl rfl) h114 (by decide) (by decide) hE F29 ?_
         intro tl109 H110 hE F111 p112 q113 l9
         have f_o1 := p112 _ _ (cnt _) f_o1
         have f_o3 := p112 _ _ (cnt _) f_o3
         obtain ⟨F8, D115⟩ := q113 _ F8 D33
         obtain ⟨F14, D116⟩ := q113 _ F14 D34
         obtain ⟨F21, D117⟩ := q113 _ F21 D35
         obtain ⟨F39, D118⟩ := q113 _ F39 D46.symm
         simp only [EVA, reduceIte, reduceCtorEq, Nat.reduceLT, Nat.reduceLeDiff, Int.reduceEq, Int.reduceLT, Int.reduceLE, Nat.reduceMul, Int.reduceToNat, Nat.reduceAdd, eq_false h49, eq_false h58, eq_false h67, eq_false h80, eq_false h93, eq_true h108, f_o1, f_o3]
         refine eop_store_go (H0 := H) (id := o3) (off := 0) (v := .agg [.int .i64 a0.c0, .int .i64 a0.c1, .dl 1 (List.map (AV.int .i64) a0.c2) tl6, .dl 1 (List.map (AV.int .i64) a0.c3) tl12, .dl 1 (List.map (AV.int .u64) a0.c4) tl19, .dl 1 (List.map (AV.int .u64) (a0.c5 ++ ([1] : List Int))) tl109, .dl 1 (List.map (AV.int .u64) a0.c6) tl37]) rfl rfl f_o3 ty41 rfl rfl (Nat.le_of_ble_eq_true rfl) hE g_o3 ?_
         intro H119 hE f9_o3 p120 l9
         have F8 := F8.keep f_o3 p120
         have F14 := F14.keep f_o3 p120
         have F21 := F21.keep f_o3 p120
         have F39 := F39.keep f_o3 p120
         have F111 := F111.keep f_o3 p120
         have f_o1 := p120 _ _ ne_o1_o3 f_o1
         have f_o3 : H119[o3]? = some (.cells ([.int .i64 a0.c0, .int .i64 a0.c1, .dl 1 (List.map (AV.int .i64) a0.c2) tl6, .dl 1 (List.map (AV.int .i64) a0.c3) tl12, .dl 1 (List.map (AV.int .u64) a0.c4) tl19, .dl 1 (List.map (AV.int .u64) (a0.c5 ++ ([1] : List Int))) tl109, .dl 1 (List.map (AV.int .u64) a0.c6) tl37])) := f9_o3
         simp only [EVA, reduceIte, reduceCtorEq, Nat.reduceLT, Nat.reduceLeDiff, Int.reduceEq, Int.reduceLT, Int.reduceLE, Nat.reduceMul, Int.reduceToNat, Nat.reduceAdd, rs19, eq_false h49, eq_false h58, eq_false h67, eq_false h80, eq_false h93, eq_true h108, f_o1, f_o3]
         obtain rfl := Option.some.inj hg
         exact .inl ⟨_, (wkR.a (wkA.agg (by repeat' first | exact Wk.nil | apply Wk.u | apply Wk.r | apply Wk.cons (wkV.tail _ _ _)))), hK _ hE⟩
        ·refine Br.no h108 ?_
         simp only [EVA, reduceIte, reduceCtorEq, Nat.reduceLT, Nat.reduceLeDiff, Int.reduceEq, Int.reduceLT, Int.reduceLE, Nat.reduceMul, Int.reduceToNat, Nat.reduceAdd, eq_false h49, eq_false h58, eq_false h67, eq_false h80, eq_false h93, eq_false h108, f_o1, f_o3]
         rcases ite_some hg with ⟨h121, hg⟩ | ⟨h121, hg⟩
         ·refine Br.yes h121 ?_
          simp only [EVA, reduceIte, reduceCtorEq, Nat.reduceLT, Nat.reduceLeDiff, Int.reduceEq, Int.reduceLT, Int.reduceLE, Nat.reduceMul, Int.reduceToNat, Nat.reduceAdd, eq_false h49, eq_false h58, eq_false h67, eq_false h80, eq_false h93, eq_false h108, eq_true h121, f_o1, f_o3]
          obtain ⟨h127, hg⟩ := guard_some hg
          refine AppE.goM (H0 := H) (AV.int .u64) a0.c6 ([1] : List Int) (n := 17592186044416) ty27 rfl ty53 rfl rfl (by decide) (.dl 1 [.int .u64 1] .full) (wkD.refl _) (srcA_dl ty27 rfl) (.inl rfl) h127 (by decide) (by decide) hE F39 ?_
          intro tl122 H123 hE F124 p125 q126 l9
          have f_o1 := p125 _ _ (cnt _) f_o1
          have f_o3 := p125 _ _ (cnt _) f_o3
          obtain ⟨F8, D128⟩ := q126 _ F8 D43
          obtain ⟨F14, D129⟩ := q126 _ F14 D44
          obtain ⟨F21, D130⟩ := q126 _ F21 D45
          obtain ⟨F29, D131⟩ := q126 _ F29 D46
          simp only [EVA, reduceIte, reduceCtorEq, Nat.reduceLT, Nat.reduceLeDiff, Int.reduceEq, Int.reduceLT, Int.reduceLE, Nat.reduceMul, Int.reduceToNat, Nat.reduceAdd, eq_false h49, eq_false h58, eq_false h67, eq_false h80, eq_false h93, eq_false h108, eq_true h121, f_o1, f_o3]
          refine eop_store_go (H0 := H) (id := o3) (off := 0) (v := .agg [.int .i64 a0.c0, .int .i64 a0.c1, .dl 1 (List.map (AV.int .i64) a0.c2) tl6, .dl 1 (List.map (AV.int .i64) a0.c3) tl12, .dl 1 (List.map (AV.int .u64) a0.c4) tl19, .dl 1 (List.map (AV.int .u64) a0.c5) tl27, .dl 1 (List.map (AV.int .u64) (a0.c6 ++ ([1] : List Int))) tl122]) rfl rfl f_o3 ty41 rfl rfl (Nat.le_of_ble_eq_true rfl) hE g_o3 ?_
          intro H132 hE f9_o3 p133 l9
          have F8 := F8.keep f_o3 p133
          have F14 := F14.keep f_o3 p133
          have F21 := F21.keep f_o3 p133
          have F29 := F29.keep f_o3 p133
          have F124 := F124.keep f_o3 p133
          have f_o1 := p133 _ _ ne_o1_o3 f_o1
          have f_o3 : H132[o3]? = some (.cells ([.int .i64 a0.c0, .int .i64 a0.c1, .dl 1 (List.map (AV.int .i64) a0.c2) tl6, .dl 1 (List.map (AV.int .i64) a0.c3) tl12, .dl 1 (List.map (AV.int .u64) a0.c4) tl19, .dl 1 (List.map (AV.int .u64) a0.c5) tl27, .dl 1 (List.map (AV.int .u64) (a0.c6 ++ ([1] : List Int))) tl122])) := f9_o3
          simp only [EVA, reduceIte, reduceCtorEq, Nat.reduceLT, Nat.reduceLeDiff, Int.reduceEq, Int.reduceLT, Int.reduceLE, Nat.reduceMul, Int.reduceToNat, Nat.reduceAdd, rs19, eq_false h49, eq_false h58, eq_false h67, eq_false h80, eq_false h93, eq_false h108, eq_true h121, f_o1, f_o3]
          obtain rfl := Option.some.inj hg
          exact .inl ⟨_, (wkR.a (wkA.agg (by repeat' first | exact Wk.nil | apply Wk.u | apply Wk.r | apply Wk.cons (wkV.tail _ _ _)))), hK _ hE⟩
         ·refine Br.no h121 ?_
          simp only [EVA, reduceIte, reduceCtorEq, Nat.reduceLT, Nat.reduceLeDiff, Int.reduceEq, Int.reduceLT, Int.reduceLE, Nat.reduceMul, Int.reduceToNat, Nat.reduceAdd, eq_false h49, eq_false h58, eq_false h67, eq_false h80, eq_false h93, eq_false h108, eq_false h121, f_o1, f_o3]
          rcases ite_some hg with ⟨h134, hg⟩ | ⟨h134, hg⟩
          ·refine Br.yes h134 ?_
           simp only [EVA, reduceIte, reduceCtorEq, Nat.reduceLT, Nat.reduceLeDiff, Int.reduceEq, Int.reduceLT, Int.reduceLE, Nat.reduceMul, Int.reduceToNat, Nat.reduceAdd, eq_false h49, eq_false h58, eq_false h67, eq_false h80, eq_false h93, eq_false h108, eq_false h121, eq_true h134, f_o1, f_o3]
           rcases ite_some hg with ⟨h135, hg⟩ | ⟨h135, hg⟩
           ·refine Br.yes h135 ?_
            cases hg
           ·refine Br.no h135 ?_
            simp only [EVA, reduceIte, reduceCtorEq, Nat.reduceLT, Nat.reduceLeDiff, Int.reduceEq, Int.reduceLT, Int.reduceLE, Nat.reduceMul, Int.reduceToNat, Nat.reduceAdd, eq_false h49, eq_false h58, eq_false h67, eq_false h80, eq_false h93, eq_false h108, eq_false h121, eq_true h134, eq_false h135, f_o1, f_o3]
            refine eop_store_go (H0 := H) (id := o3) (off := 0) (v := .agg [.int .i64 a0.c0, .int .i64 a0.c1, .dl 1 (List.map (AV.int .i64) a0.c2) tl6, .dl 1 (List.map (AV.int .i64) a0.c3) tl12, .dl 1 (List.map (AV.int .u64) a0.c4) tl19, .dl 1 (List.map (AV.int .u64) a0.c5) tl27, .dl 1 (List.map (AV.int .u64) a0.c6) tl37]) rfl rfl f_o3 ty41 rfl rfl (Nat.le_of_ble_eq_true rfl) hE g_o3 ?_
            intro H136 hE f9_o3 p137 l9
            have F8 := F8.keep f_o3 p137
            have F14 := F14.keep f_o3 p137
            have F21 := F21.keep f_o3 p137
            have F29 := F29.keep f_o3 p137
            have F39 := F39.keep f_o3 p137
            have f_o1 := p137 _ _ ne_o1_o3 f_o1
            have f_o3 : H136[o3]? = some (.cells ([.int .i64 a0.c0, .int .i64 a0.c1, .dl 1 (List.map (AV.int .i64) a0.c2) tl6, .dl 1 (List.map (AV.int .i64) a0.c3) tl12, .dl 1 (List.map (AV.int .u64) a0.c4) tl19, .dl 1 (List.map (AV.int .u64) a0.c5) tl27, .dl 1 (List.map (AV.int .u64) a0.c6) tl37])) := f9_o3
            simp only [EVA, reduceIte, reduceCtorEq, Nat.reduceLT, Nat.reduceLeDiff, Int.reduceEq, Int.reduceLT, Int.reduceLE, Nat.reduceMul, Int.reduceToNat, Nat.reduceAdd, rs19, eq_false h49, eq_false h58, eq_false h67, eq_false h80, eq_false h93, eq_false h108, eq_false h121, eq_true h134, eq_false h135, f_o1, f_o3]
            obtain rfl := Option.some.inj hg
            exact .inl ⟨_, (wkR.a (wkA.agg (by repeat' first | exact Wk.nil | apply Wk.u | apply Wk.r | apply Wk.cons (wkV.tail _ _ _)))), hK _ hE⟩
          ·refine Br.no h134 ?_
           simp only [EVA, reduceIte, reduceCtorEq, Nat.reduceLT, Nat.reduceLeDiff, Int.reduceEq, Int.reduceLT, Int.reduceLE, Nat.reduceMul, Int.reduceToNat, Nat.reduceAdd, eq_false h49, eq_false h58, eq_false h67, eq_false h80, eq_false h93, eq_false h108, eq_false h121, eq_false h134, f_o1, f_o3]
           rcases ite_some hg with ⟨h138, hg⟩ | ⟨h138, hg⟩
           ·refine Br.yes h138 ?_
            simp only [EVA, reduceIte, reduceCtorEq, Nat.reduceLT, Nat.reduceLeDiff, Int.reduceEq, Int.reduceLT, Int.reduceLE, Nat.reduceMul, Int.reduceToNat, Nat.reduceAdd, eq_false h49, eq_false h58, eq_false h67, eq_false h80, eq_false h93, eq_false h108, eq_false h121, eq_false h134, eq_true h138, f_o1, f_o3]
            rcases ite_some hg with ⟨h139, hg⟩ | ⟨h139, hg⟩
            ·refine Br.yes h139 ?_
             cases hg
            ·refine Br.no h139 ?_
             simp only [EVA, reduceIte, reduceCtorEq, Nat.reduceLT, Nat.reduceLeDiff, Int.reduceEq, Int.reduceLT, Int.reduceLE, Nat.reduceMul, Int.reduceToNat, Nat.reduceAdd, eq_false h49, eq_false h58, eq_false h67, eq_false h80, eq_false h93, eq_false h108, eq_false h121, eq_false h134, eq_true h138, eq_false h139, f_o1, f_o3]
             refine eop_store_go (H0 := H) (id := o3) (off := 0) (v := .agg [.int .i64 a0.c0, .int .i64 a0.c1, .dl 1 (List.map (AV.int .i64) a0.c2) tl6, .dl 1 (List.map (AV.int .i64) a0.c3) tl12, .dl 1 (List.map (AV.int .u64) a0.c4) tl19, .dl 1 (List.map (AV.int .u64) a0.c5) tl27, .dl 1 (List.map (AV.int .u64) a0.c6) tl37]) rfl rfl f_o3 ty41 rfl rfl (Nat.le_of_ble_eq_true rfl) hE g_o3 ?_
             intro H140 hE f9_o3 p141 l9
             have F8 := F8.keep f_o3 p141
             have F14 := F14.keep f_o3 p141
             have F21 := F21.keep f_o3 p141
             have F29 := F29.keep f_o3 p141
             have F39 := F39.keep f_o3 p141
             have f_o1 := p141 _ _ ne_o1_o3 f_o1
             have f_o3 : H140[o3]? = some (.cells ([.int .i64 a0.c0, .int .i64 a0.c1, .dl 1 (List.map (AV.int .i64) a0.c2) tl6, .dl 1 (List.map (AV.int .i64) a0.c3) tl12, .dl 1 (List.map (AV.int .u64) a0.c4) tl19, .dl 1 (List.map (AV.int .u64) a0.c5) tl27, .dl 1 (List.map (AV.int .u64) a0.c6) tl37])) := f9_o3
             simp only [EVA, reduceIte, reduceCtorEq, Nat.reduceLT, Nat.reduceLeDiff, Int.reduceEq, Int.reduceLT, Int.reduceLE, Nat.reduceMul, Int.reduceToNat, Nat.reduceAdd, rs19, eq_false h49, eq_false h58, eq_false h67, eq_false h80, eq_false h93, eq_false h108, eq_false h121, eq_false h134, eq_true h138, eq_false h139, f_o1, f_o3]
             obtain rfl := Option.some.inj hg
             exact .inl ⟨_, (wkR.a (wkA.agg (by repeat' first | exact Wk.nil | apply Wk.u | apply Wk.r | apply Wk.cons (wkV.tail _ _ _)))), hK _ hE⟩
           ·refine Br.no h138 ?_
            simp only [EVA, reduceIte, reduceCtorEq, Nat.reduceLT, Nat.reduceLeDiff, Int.reduceEq, Int.reduceLT, Int.reduceLE, Nat.reduceMul, Int.reduceToNat, Nat.reduceAdd, eq_false h49, eq_false h58, eq_false h67, eq_false h80, eq_false h93, eq_false h108, eq_false h121, eq_false h134, eq_false h138, f_o1, f_o3]
            refine eop_store_go (H0 := H) (id := o3) (off := 0) (v := .agg [.int .i64 a0.c0, .int .i64 a0.c1, .dl 1 (List.map (AV.int .i64) a0.c2) tl6, .dl 1 (List.map (AV.int .i64) a0.c3) tl12, .dl 1 (List.map (AV.int .u64) a0.c4) tl19, .dl 1 (List.map (AV.int .u64) a0.c5) tl27, .dl 1 (List.map (AV.int .u64) a0.c6) tl37]) rfl rfl f_o3 ty41 rfl rfl (Nat.le_of_ble_eq_true rfl) hE g_o3 ?_
            intro H142 hE f9_o3 p143 l9
            have F8 := F8.keep f_o3 p143
            have F14 := F14.keep f_o3 p143
            have F21 := F21.keep f_o3 p143
            have F29 := F29.keep f_o3 p143
            have F39 := F39.keep f_o3 p143
            have f_o1 := p143 _ _ ne_o1_o3 f_o1
            have f_o3 : H142[o3]? = some (.cells ([.int .i64 a0.c0, .int .i64 a0.c1, .dl 1 (List.map (AV.int .i64) a0.c2) tl6, .dl 1 (List.map (AV.int .i64) a0.c3) tl12, .dl 1 (List.map (AV.int .u64) a0.c4) tl19, .dl 1 (List.map (AV.int .u64) a0.c5) tl27, .dl 1 (List.map (AV.int .u64) a0.c6) tl37])) := f9_o3
            simp only [EVA, reduceIte, reduceCtorEq, Nat.reduceLT, Nat.reduceLeDiff, Int.reduceEq, Int.reduceLT, Int.reduceLE, Nat.reduceMul, Int.reduceToNat, Nat.reduceAdd, rs19, eq_false h49, eq_false h58, eq_false h67, eq_false h80, eq_false h93, eq_false h108, eq_false h121, eq_false h134, eq_false h138, f_o1, f_o3]
            obtain rfl := Option.some.inj hg
            exact .inl ⟨_, (wkR.a (wkA.agg (by repeat' first | exact Wk.nil | apply Wk.u | apply Wk.r | apply Wk.cons (wkV.tail _ _ _)))), hK _ hE⟩
end Go.Av
end
