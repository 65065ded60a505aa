/- the layer over the model, part 11 -/
import Derived.Test.YtcgndadlcgnilaaGreatA10
set_option autoImplicit false
set_option linter.unusedSimpArgs false
set_option linter.unusedVariables false
set_option linter.unnecessarySimpa false
section
namespace Go.Av
open Go.Proofs
theorem PUTS : (type_of% @putA_nil) ∧ (type_of% @putA_0) ∧ (type_of% @putA_s) ∧ (type_of% @List.cons_append) ∧ (type_of% @List.nil_append) := ⟨@putA_nil, @putA_0, @putA_s, @List.cons_append, @List.nil_append⟩
theorem apt22 : AppTy Tryz.prog 22 1 17592186044416 := ⟨_, _, _, _, ty22, rfl, ty3, rfl, rfl, by decide, rfl, by decide, by decide⟩
theorem apt24 : AppTy Tryz.prog 24 7 2199023255552 := ⟨_, _, _, _, ty24, rfl, ty80, rfl, rfl, by decide, rfl, by decide, by decide⟩
theorem apt27 : AppTy Tryz.prog 27 1 17592186044416 := ⟨_, _, _, _, ty27, rfl, ty53, rfl, rfl, by decide, rfl, by decide, by decide⟩
theorem apt29 : AppTy Tryz.prog 29 1 5864062014805 := ⟨_, _, _, _, ty29, rfl, ty52, rfl, rfl, by decide, rfl, by decide, by decide⟩
theorem apt37 : AppTy Tryz.prog 37 8 1954687338268 := ⟨_, _, _, _, ty37, rfl, ty85, rfl, rfl, by decide, rfl, by decide, by decide⟩
theorem apt39 : AppTy Tryz.prog 39 1 5864062014805 := ⟨_, _, _, _, ty39, rfl, ty63, rfl, rfl, by decide, rfl, by decide, by decide⟩
theorem apt52 : AppTy Tryz.prog 52 7 1599289640401 := ⟨_, _, _, _, ty52, rfl, ty57, rfl, rfl, by decide, rfl, by decide, by decide⟩
theorem apt63 : AppTy Tryz.prog 63 7 1599289640401 := ⟨_, _, _, _, ty63, rfl, ty64, rfl, rfl, by decide, rfl, by decide, by decide⟩
theorem apt67 : AppTy Tryz.prog 67 1 140737488355328 := ⟨_, _, _, _, ty67, rfl, ty5, rfl, rfl, by decide, rfl, by decide, by decide⟩
theorem src1_encS2 {t : TypeId} {ti : TyA} {e : TypeId} {tl : Tail} {a0_0 : Int} {a0_1 : (List UInt8)} {a0_2 : Int} {a0_3 : Int} {a0_4 : Int} {a0_5 : Int} {a0_6 : Bool} (h1 : tyA Tryz.prog t = some ti) (h2 : ti.kind = .slice e) : AppSrc Tryz.prog t 7 (.dl 7 [.agg [.int .i64 a0_0, .str a0_1, .int .i64 a0_2, .int .i64 a0_3, .int .i64 a0_4, .int .u64 a0_5, .bool a0_6]] tl) (List.map encS2 ([⟨a0_0, a0_1, a0_2, a0_3, a0_4, a0_5, a0_6⟩] : List S2)) := AppSrc.dl h1 h2
theorem src1_AVintu64 {t : TypeId} {ti : TyA} {e : TypeId} {tl : Tail} {a0 : Int} (h1 : tyA Tryz.prog t = some ti) (h2 : ti.kind = .slice e) : AppSrc Tryz.prog t 1 (.dl 1 [.int .u64 a0] tl) (List.map (AV.int .u64) ([a0] : List Int)) := AppSrc.dl h1 h2
theorem src1_encS1 {t : TypeId} {ti : TyA} {e : TypeId} {tl : Tail} {a0_0 : Int} {a0_1 : Int} {a0_2 : Int} {a0_3 : Int} {a0_4 : (List Int)} {a0_5 : (List Int)} {a0_6 : Int} (h1 : tyA Tryz.prog t = some ti) (h2 : ti.kind = .slice e) : AppSrc Tryz.prog t 7 (.dl 7 [.agg [.int .i64 a0_0, .int .i64 a0_1, .int .i64 a0_2, .int .u64 a0_3, .dl 1 (List.map (AV.int .u64) a0_4) .none, .dl 1 (List.map (AV.int .u64) a0_5) .none, .int .u64 a0_6]] tl) (List.map encS1 ([⟨a0_0, a0_1, a0_2, a0_3, a0_4, a0_5, a0_6⟩] : List S1)) := AppSrc.dl h1 h2
theorem src1_encL3 {t : TypeId} {ti : TyA} {e : TypeId} {tl : Tail} {a0 : (List S1)} (h1 : tyA Tryz.prog t = some ti) (h2 : ti.kind = .slice e) : AppSrc Tryz.prog t 1 (.dl 1 [.dl 7 (List.map encS1 a0) .none] tl) (List.map encL3 ([a0] : List (List S1))) := AppSrc.dl h1 h2
theorem src1_AVinti64 {t : TypeId} {ti : TyA} {e : TypeId} {tl : Tail} {a0 : Int} (h1 : tyA Tryz.prog t = some ti) (h2 : ti.kind = .slice e) : AppSrc Tryz.prog t 1 (.dl 1 [.int .i64 a0] tl) (List.map (AV.int .i64) ([a0] : List Int)) := AppSrc.dl h1 h2
theorem src1_AVintu8 {t : TypeId} {ti : TyA} {e : TypeId} {tl : Tail} {a0 : Int} (h1 : tyA Tryz.prog t = some ti) (h2 : ti.kind = .slice e) : AppSrc Tryz.prog t 1 (.dl 1 [.int .u8 a0] tl) (List.map (AV.int .u8) ([a0] : List Int)) := AppSrc.dl h1 h2
theorem src1_encS6 {t : TypeId} {ti : TyA} {e : TypeId} {tl : Tail} {a0_0 : Int} {a0_1 : Int} {a0_2 : (List UInt8)} {a0_3 : Int} {a0_4 : Int} {a0_5 : Int} {a0_6 : Int} {a0_7 : Bool} (h1 : tyA Tryz.prog t = some ti) (h2 : ti.kind = .slice e) : AppSrc Tryz.prog t 8 (.dl 8 [.agg [.int .i64 a0_0, .int .i64 a0_1, .str a0_2, .int .i64 a0_3, .int .i64 a0_4, .int .i64 a0_5, .int .u64 a0_6, .bool a0_7]] tl) (List.map encS6 ([⟨a0_0, a0_1, a0_2, a0_3, a0_4, a0_5, a0_6, a0_7⟩] : List S6)) := AppSrc.dl h1 h2
theorem srcW_encS1 {t : TypeId} {ti : TyA} {e : TypeId} {tl : Tail} {y : AV} {ys : List AV} {a0 : Int} {a1 : Int} {a2 : Int} {a3 : Int} {a4 : (List Int)} {a5 : (List Int)} {a6 : Int} (h1 : tyA Tryz.prog t = some ti) (h2 : ti.kind = .slice e) (h0 : y.cells = ys) (h : Wk [.int .i64 a0, .int .i64 a1, .int .i64 a2, .int .u64 a3, .dl 1 (List.map (AV.int .u64) a4) .none, .dl 1 (List.map (AV.int .u64) a5) .none, .int .u64 a6] ys) : AppSrc Tryz.prog t 7 (.dl 7 [y] tl) (List.map encS1 [(⟨a0, a1, a2, a3, a4, a5, a6⟩ : S1)]) := AppSrc.wk (x := encS1 (⟨a0, a1, a2, a3, a4, a5, a6⟩ : S1)) h1 h2 rfl (by subst h0; exact h)
theorem srcW_encL3 {t : TypeId} {ti : TyA} {e : TypeId} {tl : Tail} {y : AV} {ys : List AV} {a0 : (List S1)} (h1 : tyA Tryz.prog t = some ti) (h2 : ti.kind = .slice e) (h0 : y.cells = ys) (h : Wk [.dl 7 (List.map encS1 a0) .none] ys) : AppSrc Tryz.prog t 1 (.dl 1 [y] tl) (List.map encL3 [a0]) := AppSrc.wk (x := encL3 a0) h1 h2 rfl (by subst h0; exact h)
theorem lit2_AVstr (x0 x1 : (List UInt8)) (i : Int) (h0 : 0 ≤ i) (h1 : i < 2) : List.getD [AV.str x0, AV.str x1] (Int.toNat i) AV.undef = AV.str (rd ([x0, x1] : List (List UInt8)) i) := rd_map (l := ([x0, x1] : List (List UInt8))) AV.str ⟨h0, by simpa using h1⟩
theorem lit4_AVinti64 (x0 x1 x2 x3 : Int) (i : Int) (h0 : 0 ≤ i) (h1 : i < 4) : List.getD [(AV.int .i64) x0, (AV.int .i64) x1, (AV.int .i64) x2, (AV.int .i64) x3] (Int.toNat i) AV.undef = (AV.int .i64) (rd ([x0, x1, x2, x3] : List Int) i) := rd_map (l := ([x0, x1, x2, x3] : List Int)) (AV.int .i64) ⟨h0, by simpa using h1⟩
end Go.Av
end
