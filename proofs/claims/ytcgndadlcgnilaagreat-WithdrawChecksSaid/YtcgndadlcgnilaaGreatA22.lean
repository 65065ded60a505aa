/- the layer over the model, part 22 -/
import Derived.Test.YtcgndadlcgnilaaGreatA21
set_option autoImplicit false
set_option linter.unusedSimpArgs false
set_option linter.unusedVariables false
set_option linter.unnecessarySimpa false
section
set_option linter.unusedSimpArgs false
set_option linter.unusedVariables false
namespace Go.Av
open Go.RowKit

theorem wrap_i64 {x : Int} (h1 : -9223372036854775808 ≤ x) (h2 : x < 9223372036854775808) : IntKind.i64.wrap x = x := by
 unfold IntKind.wrap
 simp only [IntKind.bits, IntKind.signed, Bool.true_and, Nat.reduceSub, Int.reducePow, ge_iff_le]
 split
 ·rename_i h; try simp only [decide_eq_true_eq] at h
  omega
 ·rename_i h; try simp only [decide_eq_true_eq] at h
  omega
theorem wrap_u64 {x : Int} (h1 : 0 ≤ x) (h2 : x < 18446744073709551616) : IntKind.u64.wrap x = x := by
 unfold IntKind.wrap
 simp only [IntKind.bits, IntKind.signed, Bool.false_and]
 split
 ·rename_i h; cases h
 ·omega
theorem wrap_u8 {x : Int} (h1 : 0 ≤ x) (h2 : x < 256) : IntKind.u8.wrap x = x := by
 unfold IntKind.wrap
 simp only [IntKind.bits, IntKind.signed, Bool.false_and]
 split
 ·rename_i h; cases h
 ·omega
theorem wrap_u64_range (x : Int) : 0 ≤ IntKind.u64.wrap x ∧ IntKind.u64.wrap x < 18446744073709551616 := by
 unfold IntKind.wrap
 simp only [IntKind.bits, IntKind.signed, Bool.false_and]
 split
 ·rename_i h; cases h
 ·omega
theorem wrap_u8_range (x : Int) : 0 ≤ IntKind.u8.wrap x ∧ IntKind.u8.wrap x < 256 := by
 unfold IntKind.wrap
 simp only [IntKind.bits, IntKind.signed, Bool.false_and]
 split
 ·rename_i h; cases h
 ·omega
theorem wrap_i64_range (x : Int) : -9223372036854775808 ≤ IntKind.i64.wrap x ∧ IntKind.i64.wrap x < 9223372036854775808 := by
 unfold IntKind.wrap
 simp only [IntKind.bits, IntKind.signed, Bool.true_and, Nat.reduceSub, Int.reducePow, ge_iff_le]
 split
 ·rename_i h; try simp only [decide_eq_true_eq] at h
  omega
 ·rename_i h; try simp only [decide_eq_true_eq] at h
  omega

/-- An element of a list of encoded things. -/
theorem getD_map {α : Type} (f : α → AV) (d : α) {l : List α} {i : Nat} (h : i < l.length) : (l.map f).getD i .undef = f (l.getD i d) := by
 simp [List.getD, h]
theorem flat_one {α : Type} (f : α → AV) (h : ∀ x, (f x).cells = [f x]) (l : List α) : flat (l.map f) = l.map f := by
 induction l with
 | nil => rfl
 | cons x l ih => rw [List.map_cons, flat_cons, h, ih]; rfl
theorem get_new (H : AHeap) (o : AObj) : (H ++ [o])[H.length]? = some o := by simp
theorem get_old {H : AHeap} {id : Nat} {o : AObj} (L : AHeap) (h : H[id]? = some o) : (H ++ L)[id]? = some o := by
 rw [List.getElem?_append_left (List.getElem?_eq_some_iff.1 h).1]; exact h
theorem set_new (H : AHeap) (o o' : AObj) : (H ++ [o]).set H.length o' = H ++ [o'] := by
 rw [List.set_append_right _ _ (Nat.le_refl _)]; simp
theorem get_set_self {H : AHeap} {id : Nat} {o : AObj} (o' : AObj) (h : H[id]? = some o) : (H.set id o')[id]? = some o' := by
 rw [List.getElem?_set_self (List.getElem?_eq_some_iff.1 h).1]
theorem get_set_ne {H : AHeap} {id j : Nat} (o' : AObj) (h : id ≠ j) : (H.set id o')[j]? = H[j]? := by rw [List.getElem?_set, if_neg h]
theorem Ext.length {H H' : AHeap} (h : Ext H H') : H.length ≤ H'.length := h.1
theorem Ext.get {H H' : AHeap} (h : Ext H H') {id : Nat} {o : AObj} (ho : H[id]? = some o) : H'[id]? = some o := h.2 id o ho
theorem Free.mono {H0 H H' : AHeap} {tl : Tail} (h : Free H0 H tl) (e : Ext H H') : Free H0 H' tl := by
 rcases h with rfl | ⟨t, rfl, h1, h2⟩
 ·exact .inl rfl
 ·exact .inr ⟨t, rfl, h1, e.2 _ _ h2⟩
theorem Free.low {H0 H1 H : AHeap} {tl : Tail} (h : Free H1 H tl) (e : Ext H0 H1) : Free H0 H tl := by
 rcases h with rfl | ⟨t, rfl, h1, h2⟩
 ·exact .inl rfl
 ·exact .inr ⟨t, rfl, Nat.le_trans e.1 h1, h2⟩
theorem shl_u64_1 (a : Int) : shlI .u64 a 1 = some (.int .u64 (IntKind.u64.wrap (a * 2))) := by simp [shlI, IntKind.bits]
theorem shr_u64_1 (a : Int) : shrI .u64 a 1 = some (.int .u64 (a.fdiv 2)) := by simp [shrI, IntKind.bits]
theorem shl_u64_2 (a : Int) : shlI .u64 a 2 = some (.int .u64 (IntKind.u64.wrap (a * 4))) := by simp [shlI, IntKind.bits]
theorem shr_u64_2 (a : Int) : shrI .u64 a 2 = some (.int .u64 (a.fdiv 4)) := by simp [shrI, IntKind.bits]
theorem shl_u64_3 (a : Int) : shlI .u64 a 3 = some (.int .u64 (IntKind.u64.wrap (a * 8))) := by simp [shlI, IntKind.bits]
theorem shr_u64_3 (a : Int) : shrI .u64 a 3 = some (.int .u64 (a.fdiv 8)) := by simp [shrI, IntKind.bits]
theorem shl_u64_4 (a : Int) : shlI .u64 a 4 = some (.int .u64 (IntKind.u64.wrap (a * 16))) := by simp [shlI, IntKind.bits]
theorem shr_u64_4 (a : Int) : shrI .u64 a 4 = some (.int .u64 (a.fdiv 16)) := by simp [shrI, IntKind.bits]
theorem shl_u64_6 (a : Int) : shlI .u64 a 6 = some (.int .u64 (IntKind.u64.wrap (a * 64))) := by simp [shlI, IntKind.bits]
theorem shr_u64_6 (a : Int) : shrI .u64 a 6 = some (.int .u64 (a.fdiv 64)) := by simp [shrI, IntKind.bits]
theorem shl_u64_7 (a : Int) : shlI .u64 a 7 = some (.int .u64 (IntKind.u64.wrap (a * 128))) := by simp [shlI, IntKind.bits]
theorem shr_u64_7 (a : Int) : shrI .u64 a 7 = some (.int .u64 (a.fdiv 128)) := by simp [shrI, IntKind.bits]
theorem shl_u64_8 (a : Int) : shlI .u64 a 8 = some (.int .u64 (IntKind.u64.wrap (a * 256))) := by simp [shlI, IntKind.bits]
theorem shr_u64_8 (a : Int) : shrI .u64 a 8 = some (.int .u64 (a.fdiv 256)) := by simp [shrI, IntKind.bits]
theorem shl_u64_16 (a : Int) : shlI .u64 a 16 = some (.int .u64 (IntKind.u64.wrap (a * 65536))) := by simp [shlI, IntKind.bits]
theorem shr_u64_16 (a : Int) : shrI .u64 a 16 = some (.int .u64 (a.fdiv 65536)) := by simp [shrI, IntKind.bits]
theorem shl_u64_24 (a : Int) : shlI .u64 a 24 = some (.int .u64 (IntKind.u64.wrap (a * 16777216))) := by simp [shlI, IntKind.bits]
theorem shr_u64_24 (a : Int) : shrI .u64 a 24 = some (.int .u64 (a.fdiv 16777216)) := by simp [shrI, IntKind.bits]
theorem shl_u64_32 (a : Int) : shlI .u64 a 32 = some (.int .u64 (IntKind.u64.wrap (a * 4294967296))) := by simp [shlI, IntKind.bits]
theorem shr_u64_32 (a : Int) : shrI .u64 a 32 = some (.int .u64 (a.fdiv 4294967296)) := by simp [shrI, IntKind.bits]
theorem shl_u64_40 (a : Int) : shlI .u64 a 40 = some (.int .u64 (IntKind.u64.wrap (a * 1099511627776))) := by simp [shlI, IntKind.bits]
theorem shr_u64_40 (a : Int) : shrI .u64 a 40 = some (.int .u64 (a.fdiv 1099511627776)) := by simp [shrI, IntKind.bits]
theorem shl_u64_48 (a : Int) : shlI .u64 a 48 = some (.int .u64 (IntKind.u64.wrap (a * 281474976710656))) := by simp [shlI, IntKind.bits]
theorem shr_u64_48 (a : Int) : shrI .u64 a 48 = some (.int .u64 (a.fdiv 281474976710656)) := by simp [shrI, IntKind.bits]
theorem shl_u64_56 (a : Int) : shlI .u64 a 56 = some (.int .u64 (IntKind.u64.wrap (a * 72057594037927936))) := by simp [shlI, IntKind.bits]
theorem shr_u64_56 (a : Int) : shrI .u64 a 56 = some (.int .u64 (a.fdiv 72057594037927936)) := by simp [shrI, IntKind.bits]
theorem shl_u64_63 (a : Int) : shlI .u64 a 63 = some (.int .u64 (IntKind.u64.wrap (a * 9223372036854775808))) := by simp [shlI, IntKind.bits]
theorem shr_u64_63 (a : Int) : shrI .u64 a 63 = some (.int .u64 (a.fdiv 9223372036854775808)) := by simp [shrI, IntKind.bits]
theorem shl_i64_1 (a : Int) : shlI .i64 a 1 = some (.int .i64 (IntKind.i64.wrap (a * 2))) := by simp [shlI, IntKind.bits]
theorem shr_i64_1 (a : Int) : shrI .i64 a 1 = some (.int .i64 (a.fdiv 2)) := by simp [shrI, IntKind.bits]
theorem shl_i64_2 (a : Int) : shlI .i64 a 2 = some (.int .i64 (IntKind.i64.wrap (a * 4))) := by simp [shlI, IntKind.bits]
theorem shr_i64_2 (a : Int) : shrI .i64 a 2 = some (.int .i64 (a.fdiv 4)) := by simp [shrI, IntKind.bits]
theorem shl_i64_3 (a : Int) : shlI .i64 a 3 = some (.int .i64 (IntKind.i64.wrap (a * 8))) := by simp [shlI, IntKind.bits]
theorem shr_i64_3 (a : Int) : shrI .i64 a 3 = some (.int .i64 (a.fdiv 8)) := by simp [shrI, IntKind.bits]
theorem shl_i64_4 (a : Int) : shlI .i64 a 4 = some (.int .i64 (IntKind.i64.wrap (a * 16))) := by simp [shlI, IntKind.bits]
theorem shr_i64_4 (a : Int) : shrI .i64 a 4 = some (.int .i64 (a.fdiv 16)) := by simp [shrI, IntKind.bits]
theorem shl_i64_6 (a : Int) : shlI .i64 a 6 = some (.int .i64 (IntKind.i64.wrap (a * 64))) := by simp [shlI, IntKind.bits]
theorem shr_i64_6 (a : Int) : shrI .i64 a 6 = some (.int .i64 (a.fdiv 64)) := by simp [shrI, IntKind.bits]
theorem shl_i64_7 (a : Int) : shlI .i64 a 7 = some (.int .i64 (IntKind.i64.wrap (a * 128))) := by simp [shlI, IntKind.bits]
theorem shr_i64_7 (a : Int) : shrI .i64 a 7 = some (.int .i64 (a.fdiv 128)) := by simp [shrI, IntKind.bits]
theorem shl_i64_8 (a : Int) : shlI .i64 a 8 = some (.int .i64 (IntKind.i64.wrap (a * 256))) := by simp [shlI, IntKind.bits]
theorem shr_i64_8 (a : Int) : shrI .i64 a 8 = some (.int .i64 (a.fdiv 256)) := by simp [shrI, IntKind.bits]
theorem shl_i64_16 (a : Int) : shlI .i64 a 16 = some (.int .i64 (IntKind.i64.wrap (a * 65536))) := by simp [shlI, IntKind.bits]
theorem shr_i64_16 (a : Int) : shrI .i64 a 16 = some (.int .i64 (a.fdiv 65536)) := by simp [shrI, IntKind.bits]
theorem shl_i64_24 (a : Int) : shlI .i64 a 24 = some (.int .i64 (IntKind.i64.wrap (a * 16777216))) := by simp [shlI, IntKind.bits]
theorem shr_i64_24 (a : Int) : shrI .i64 a 24 = some (.int .i64 (a.fdiv 16777216)) := by simp [shrI, IntKind.bits]
theorem shl_i64_32 (a : Int) : shlI .i64 a 32 = some (.int .i64 (IntKind.i64.wrap (a * 4294967296))) := by simp [shlI, IntKind.bits]
theorem shr_i64_32 (a : Int) : shrI .i64 a 32 = some (.int .i64 (a.fdiv 4294967296)) := by simp [shrI, IntKind.bits]
theorem shl_i64_40 (a : Int) : shlI .i64 a 40 = some (.int .i64 (IntKind.i64.wrap (a * 1099511627776))) := by simp [shlI, IntKind.bits]
theorem shr_i64_40 (a : Int) : shrI .i64 a 40 = some (.int .i64 (a.fdiv 1099511627776)) := by simp [shrI, IntKind.bits]
theorem shl_i64_48 (a : Int) : shlI .i64 a 48 = some (.int .i64 (IntKind.i64.wrap (a * 281474976710656))) := by simp [shlI, IntKind.bits]
theorem shr_i64_48 (a : Int) : shrI .i64 a 48 = some (.int .i64 (a.fdiv 281474976710656)) := by simp [shrI, IntKind.bits]
theorem shl_i64_56 (a : Int) : shlI .i64 a 56 = some (.int .i64 (IntKind.i64.wrap (a * 72057594037927936))) := by simp [shlI, IntKind.bits]
theorem shr_i64_56 (a : Int) : shrI .i64 a 56 = some (.int .i64 (a.fdiv 72057594037927936)) := by simp [shrI, IntKind.bits]
theorem shl_i64_63 (a : Int) : shlI .i64 a 63 = some (.int .i64 (IntKind.i64.wrap (a * 9223372036854775808))) := by simp [shlI, IntKind.bits]
theorem shr_i64_63 (a : Int) : shrI .i64 a 63 = some (.int .i64 (a.fdiv 9223372036854775808)) := by simp [shrI, IntKind.bits]
theorem shl_u8_1 (a : Int) : shlI .u8 a 1 = some (.int .u8 (IntKind.u8.wrap (a * 2))) := by simp [shlI, IntKind.bits]
theorem shr_u8_1 (a : Int) : shrI .u8 a 1 = some (.int .u8 (a.fdiv 2)) := by simp [shrI, IntKind.bits]
theorem shl_u8_2 (a : Int) : shlI .u8 a 2 = some (.int .u8 (IntKind.u8.wrap (a * 4))) := by simp [shlI, IntKind.bits]
theorem shr_u8_2 (a : Int) : shrI .u8 a 2 = some (.int .u8 (a.fdiv 4)) := by simp [shrI, IntKind.bits]
theorem shl_u8_3 (a : Int) : shlI .u8 a 3 = some (.int .u8 (IntKind.u8.wrap (a * 8))) := by simp [shlI, IntKind.bits]
theorem shr_u8_3 (a : Int) : shrI .u8 a 3 = some (.int .u8 (a.fdiv 8)) := by simp [shrI, IntKind.bits]
theorem shl_u8_4 (a : Int) : shlI .u8 a 4 = some (.int .u8 (IntKind.u8.wrap (a * 16))) := by simp [shlI, IntKind.bits]
theorem shr_u8_4 (a : Int) : shrI .u8 a 4 = some (.int .u8 (a.fdiv 16)) := by simp [shrI, IntKind.bits]
theorem shl_u8_6 (a : Int) : shlI .u8 a 6 = some (.int .u8 (IntKind.u8.wrap (a * 64))) := by simp [shlI, IntKind.bits]
theorem shr_u8_6 (a : Int) : shrI .u8 a 6 = some (.int .u8 (a.fdiv 64)) := by simp [shrI, IntKind.bits]
theorem shl_u8_7 (a : Int) : shlI .u8 a 7 = some (.int .u8 (IntKind.u8.wrap (a * 128))) := by simp [shlI, IntKind.bits]
theorem shr_u8_7 (a : Int) : shrI .u8 a 7 = some (.int .u8 (a.fdiv 128)) := by simp [shrI, IntKind.bits]
theorem shl_u8_8 (a : Int) : shlI .u8 a 8 = some (.int .u8 (IntKind.u8.wrap (a * 256))) := by simp [shlI, IntKind.bits]
theorem shr_u8_8 (a : Int) : shrI .u8 a 8 = some (.int .u8 (a.fdiv 256)) := by simp [shrI, IntKind.bits]
theorem shl_u8_16 (a : Int) : shlI .u8 a 16 = some (.int .u8 (IntKind.u8.wrap (a * 256))) := by simp [shlI, IntKind.bits]
theorem shr_u8_16 (a : Int) : shrI .u8 a 16 = some (.int .u8 (a.fdiv 256)) := by simp [shrI, IntKind.bits]
theorem shl_u8_24 (a : Int) : shlI .u8 a 24 = some (.int .u8 (IntKind.u8.wrap (a * 256))) := by simp [shlI, IntKind.bits]
theorem shr_u8_24 (a : Int) : shrI .u8 a 24 = some (.int .u8 (a.fdiv 256)) := by simp [shrI, IntKind.bits]
theorem shl_u8_32 (a : Int) : shlI .u8 a 32 = some (.int .u8 (IntKind.u8.wrap (a * 256))) := by simp [shlI, IntKind.bits]
theorem shr_u8_32 (a : Int) : shrI .u8 a 32 = some (.int .u8 (a.fdiv 256)) := by simp [shrI, IntKind.bits]
theorem shl_u8_40 (a : Int) : shlI .u8 a 40 = some (.int .u8 (IntKind.u8.wrap (a * 256))) := by simp [shlI, IntKind.bits]
theorem shr_u8_40 (a : Int) : shrI .u8 a 40 = some (.int .u8 (a.fdiv 256)) := by simp [shrI, IntKind.bits]
theorem shl_u8_48 (a : Int) : shlI .u8 a 48 = some (.int .u8 (IntKind.u8.wrap (a * 256))) := by simp [shlI, IntKind.bits]
theorem shr_u8_48 (a : Int) : shrI .u8 a 48 = some (.int .u8 (a.fdiv 256)) := by simp [shrI, IntKind.bits]
theorem shl_u8_56 (a : Int) : shlI .u8 a 56 = some (.int .u8 (IntKind.u8.wrap (a * 256))) := by simp [shlI, IntKind.bits]
theorem shr_u8_56 (a : Int) : shrI .u8 a 56 = some (.int .u8 (a.fdiv 256)) := by simp [shrI, IntKind.bits]
theorem shl_u8_63 (a : Int) : shlI .u8 a 63 = some (.int .u8 (IntKind.u8.wrap (a * 256))) := by simp [shlI, IntKind.bits]
theorem shr_u8_63 (a : Int) : shrI .u8 a 63 = some (.int .u8 (a.fdiv 256)) := by simp [shrI, IntKind.bits]
theorem shl_u32_1 (a : Int) : shlI .u32 a 1 = some (.int .u32 (IntKind.u32.wrap (a * 2))) := by simp [shlI, IntKind.bits]
theorem shr_u32_1 (a : Int) : shrI .u32 a 1 = some (.int .u32 (a.fdiv 2)) := by simp [shrI, IntKind.bits]
theorem shl_u32_2 (a : Int) : shlI .u32 a 2 = some (.int .u32 (IntKind.u32.wrap (a * 4))) := by simp [shlI, IntKind.bits]
theorem shr_u32_2 (a : Int) : shrI .u32 a 2 = some (.int .u32 (a.fdiv 4)) := by simp [shrI, IntKind.bits]
theorem shl_u32_3 (a : Int) : shlI .u32 a 3 = some (.int .u32 (IntKind.u32.wrap (a * 8))) := by simp [shlI, IntKind.bits]
theorem shr_u32_3 (a : Int) : shrI .u32 a 3 = some (.int .u32 (a.fdiv 8)) := by simp [shrI, IntKind.bits]
theorem shl_u32_4 (a : Int) : shlI .u32 a 4 = some (.int .u32 (IntKind.u32.wrap (a * 16))) := by simp [shlI, IntKind.bits]
theorem shr_u32_4 (a : Int) : shrI .u32 a 4 = some (.int .u32 (a.fdiv 16)) := by simp [shrI, IntKind.bits]
theorem shl_u32_6 (a : Int) : shlI .u32 a 6 = some (.int .u32 (IntKind.u32.wrap (a * 64))) := by simp [shlI, IntKind.bits]
theorem shr_u32_6 (a : Int) : shrI .u32 a 6 = some (.int .u32 (a.fdiv 64)) := by simp [shrI, IntKind.bits]
theorem shl_u32_7 (a : Int) : shlI .u32 a 7 = some (.int .u32 (IntKind.u32.wrap (a * 128))) := by simp [shlI, IntKind.bits]
theorem shr_u32_7 (a : Int) : shrI .u32 a 7 = some (.int .u32 (a.fdiv 128)) := by simp [shrI, IntKind.bits]
theorem shl_u32_8 (a : Int) : shlI .u32 a 8 = some (.int .u32 (IntKind.u32.wrap (a * 256))) := by simp [shlI, IntKind.bits]
theorem shr_u32_8 (a : Int) : shrI .u32 a 8 = some (.int .u32 (a.fdiv 256)) := by simp [shrI, IntKind.bits]
theorem shl_u32_16 (a : Int) : shlI .u32 a 16 = some (.int .u32 (IntKind.u32.wrap (a * 65536))) := by simp [shlI, IntKind.bits]
theorem shr_u32_16 (a : Int) : shrI .u32 a 16 = some (.int .u32 (a.fdiv 65536)) := by simp [shrI, IntKind.bits]
theorem shl_u32_24 (a : Int) : shlI .u32 a 24 = some (.int .u32 (IntKind.u32.wrap (a * 16777216))) := by simp [shlI, IntKind.bits]
theorem shr_u32_24 (a : Int) : shrI .u32 a 24 = some (.int .u32 (a.fdiv 16777216)) := by simp [shrI, IntKind.bits]
theorem shl_u32_32 (a : Int) : shlI .u32 a 32 = some (.int .u32 (IntKind.u32.wrap (a * 4294967296))) := by simp [shlI, IntKind.bits]
theorem shr_u32_32 (a : Int) : shrI .u32 a 32 = some (.int .u32 (a.fdiv 4294967296)) := by simp [shrI, IntKind.bits]
theorem shl_u32_40 (a : Int) : shlI .u32 a 40 = some (.int .u32 (IntKind.u32.wrap (a * 4294967296))) := by simp [shlI, IntKind.bits]
theorem shr_u32_40 (a : Int) : shrI .u32 a 40 = some (.int .u32 (a.fdiv 4294967296)) := by simp [shrI, IntKind.bits]
theorem shl_u32_48 (a : Int) : shlI .u32 a 48 = some (.int .u32 (IntKind.u32.wrap (a * 4294967296))) := by simp [shlI, IntKind.bits]
theorem shr_u32_48 (a : Int) : shrI .u32 a 48 = some (.int .u32 (a.fdiv 4294967296)) := by simp [shrI, IntKind.bits]
theorem shl_u32_56 (a : Int) : shlI .u32 a 56 = some (.int .u32 (IntKind.u32.wrap (a * 4294967296))) := by simp [shlI, IntKind.bits]
theorem shr_u32_56 (a : Int) : shrI .u32 a 56 = some (.int .u32 (a.fdiv 4294967296)) := by simp [shrI, IntKind.bits]
theorem shl_u32_63 (a : Int) : shlI .u32 a 63 = some (.int .u32 (IntKind.u32.wrap (a * 4294967296))) := by simp [shlI, IntKind.bits]
theorem shr_u32_63 (a : Int) : shrI .u32 a 63 = some (.int .u32 (a.fdiv 4294967296)) := by simp [shrI, IntKind.bits]
theorem shl_i32_1 (a : Int) : shlI .i32 a 1 = some (.int .i32 (IntKind.i32.wrap (a * 2))) := by simp [shlI, IntKind.bits]
theorem shr_i32_1 (a : Int) : shrI .i32 a 1 = some (.int .i32 (a.fdiv 2)) := by simp [shrI, IntKind.bits]
theorem shl_i32_2 (a : Int) : shlI .i32 a 2 = some (.int .i32 (IntKind.i32.wrap (a * 4))) := by simp [shlI, IntKind.bits]
theorem shr_i32_2 (a : Int) : shrI .i32 a 2 = some (.int .i32 (a.fdiv 4)) := by simp [shrI, IntKind.bits]
theorem shl_i32_3 (a : Int) : shlI .i32 a 3 = some (.int .i32 (IntKind.i32.wrap (a * 8))) := by simp [shlI, IntKind.bits]
theorem shr_i32_3 (a : Int) : shrI .i32 a 3 = some (.int .i32 (a.fdiv 8)) := by simp [shrI, IntKind.bits]
theorem shl_i32_4 (a : Int) : shlI .i32 a 4 = some (.int .i32 (IntKind.i32.wrap (a * 16))) := by simp [shlI, IntKind.bits]
theorem shr_i32_4 (a : Int) : shrI .i32 a 4 = some (.int .i32 (a.fdiv 16)) := by simp [shrI, IntKind.bits]
theorem shl_i32_6 (a : Int) : shlI .i32 a 6 = some (.int .i32 (IntKind.i32.wrap (a * 64))) := by simp [shlI, IntKind.bits]
theorem shr_i32_6 (a : Int) : shrI .i32 a 6 = some (.int .i32 (a.fdiv 64)) := by simp [shrI, IntKind.bits]
theorem shl_i32_7 (a : Int) : shlI .i32 a 7 = some (.int .i32 (IntKind.i32.wrap (a * 128))) := by simp [shlI, IntKind.bits]
theorem shr_i32_7 (a : Int) : shrI .i32 a 7 = some (.int .i32 (a.fdiv 128)) := by simp [shrI, IntKind.bits]
theorem shl_i32_8 (a : Int) : shlI .i32 a 8 = some (.int .i32 (IntKind.i32.wrap (a * 256))) := by simp [shlI, IntKind.bits]
theorem shr_i32_8 (a : Int) : shrI .i32 a 8 = some (.int .i32 (a.fdiv 256)) := by simp [shrI, IntKind.bits]
theorem shl_i32_16 (a : Int) : shlI .i32 a 16 = some (.int .i32 (IntKind.i32.wrap (a * 65536))) := by simp [shlI, IntKind.bits]
theorem shr_i32_16 (a : Int) : shrI .i32 a 16 = some (.int .i32 (a.fdiv 65536)) := by simp [shrI, IntKind.bits]
theorem shl_i32_24 (a : Int) : shlI .i32 a 24 = some (.int .i32 (IntKind.i32.wrap (a * 16777216))) := by simp [shlI, IntKind.bits]
theorem shr_i32_24 (a : Int) : shrI .i32 a 24 = some (.int .i32 (a.fdiv 16777216)) := by simp [shrI, IntKind.bits]
theorem shl_i32_32 (a : Int) : shlI .i32 a 32 = some (.int .i32 (IntKind.i32.wrap (a * 4294967296))) := by simp [shlI, IntKind.bits]
theorem shr_i32_32 (a : Int) : shrI .i32 a 32 = some (.int .i32 (a.fdiv 4294967296)) := by simp [shrI, IntKind.bits]
theorem shl_i32_40 (a : Int) : shlI .i32 a 40 = some (.int .i32 (IntKind.i32.wrap (a * 4294967296))) := by simp [shlI, IntKind.bits]
theorem shr_i32_40 (a : Int) : shrI .i32 a 40 = some (.int .i32 (a.fdiv 4294967296)) := by simp [shrI, IntKind.bits]
theorem shl_i32_48 (a : Int) : shlI .i32 a 48 = some (.int .i32 (IntKind.i32.wrap (a * 4294967296))) := by simp [shlI, IntKind.bits]
theorem shr_i32_48 (a : Int) : shrI .i32 a 48 = some (.int .i32 (a.fdiv 4294967296)) := by simp [shrI, IntKind.bits]
theorem shl_i32_56 (a : Int) : shlI .i32 a 56 = some (.int .i32 (IntKind.i32.wrap (a * 4294967296))) := by simp [shlI, IntKind.bits]
theorem shr_i32_56 (a : Int) : shrI .i32 a 56 = some (.int .i32 (a.fdiv 4294967296)) := by simp [shrI, IntKind.bits]
theorem shl_i32_63 (a : Int) : shlI .i32 a 63 = some (.int .i32 (IntKind.i32.wrap (a * 4294967296))) := by simp [shlI, IntKind.bits]
theorem shr_i32_63 (a : Int) : shrI .i32 a 63 = some (.int .i32 (a.fdiv 4294967296)) := by simp [shrI, IntKind.bits]
theorem srcA_dl {P : Program} {s : Nat} {t2 e : TypeId} {i : TyA} {ys : List AV} {tl : Tail} (h : tyA P t2 = some i) (hk : i.kind = .slice e) : srcA P s t2 (.dl s ys tl) = some ys := by
 unfold srcA; rw [h]; simp only [hk, true_or, if_true]
theorem srcA_nil {P : Program} {s s' : Nat} {t2 e : TypeId} {i : TyA} {tl : Tail} (h : tyA P t2 = some i) (hk : i.kind = .slice e) : srcA P s t2 (.dl s' [] tl) = some [] := by
 unfold srcA; rw [h]; simp only [hk, or_true, if_true]
theorem srcA_str {P : Program} {t2 : TypeId} {i : TyA} {b : List UInt8} (h : tyA P t2 = some i) (hk : i.kind = .str) : srcA P 1 t2 (.str b) = some (b.map fun c => .int .u8 (c.toNat : Int)) := by
 unfold srcA; rw [h]; simp only [hk, if_true]
end Go.Av
end
