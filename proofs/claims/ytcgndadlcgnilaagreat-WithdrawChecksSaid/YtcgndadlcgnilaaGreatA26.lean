/- the layer over the model, part 26 -/
import Derived.Test.YtcgndadlcgnilaaGreatProg
import Derived.KernelRfl
import Derived.Test.YtcgndadlcgnilaaGreatA25
set_option autoImplicit false
set_option linter.unusedSimpArgs false
set_option linter.unusedVariables false
set_option linter.unnecessarySimpa false
section
namespace Go.Av
open Go.Proofs
theorem ty2 : tyA Tryz.prog 2 = some { kind := .int .i64, size := 1, bytes := 8, zero := some (.int .i64 0) } := by kernel_rfl
theorem ty3 : tyA Tryz.prog 3 = some { kind := .int .i64, size := 1, bytes := 8, zero := some (.int .i64 0) } := by kernel_rfl
theorem ty4 : tyA Tryz.prog 4 = some { kind := .bool, size := 1, bytes := 1, zero := some (.bool false) } := by kernel_rfl
theorem ty5 : tyA Tryz.prog 5 = some { kind := .int .u8, size := 1, bytes := 1, zero := some (.int .u8 0) } := by kernel_rfl
theorem ty6 : tyA Tryz.prog 6 = some { kind := .int .u8, size := 1, bytes := 1, zero := some (.int .u8 0) } := by kernel_rfl
theorem ty7 : tyA Tryz.prog 7 = some { kind := .struct [(0, 2), (1, 3), (2, 4), (3, 6)], size := 4, bytes := 24, zero := some (.agg [.int .i64 0, .int .i64 0, .bool false, .int .u8 0]) } := by kernel_rfl
theorem ty8 : tyA Tryz.prog 8 = some { kind := .struct [(0, 2), (1, 3), (2, 4), (3, 6)], size := 4, bytes := 24, zero := some (.agg [.int .i64 0, .int .i64 0, .bool false, .int .u8 0]) } := by kernel_rfl
theorem ty9 : tyA Tryz.prog 9 = some { kind := .str, size := 1, bytes := 16, zero := some (.str []) } := by kernel_rfl
theorem ty10 : tyA Tryz.prog 10 = some { kind := .str, size := 1, bytes := 16, zero := some (.str []) } := by kernel_rfl
theorem ty11 : tyA Tryz.prog 11 = some { kind := .str, size := 1, bytes := 16, zero := some (.str []) } := by kernel_rfl
theorem ty12 : tyA Tryz.prog 12 = some { kind := .int .u64, size := 1, bytes := 8, zero := some (.int .u64 0) } := by kernel_rfl
theorem ty13 : tyA Tryz.prog 13 = some { kind := .struct [(0, 9), (1, 12)], size := 2, bytes := 24, zero := some (.agg [.str [], .int .u64 0]) } := by kernel_rfl
theorem ty14 : tyA Tryz.prog 14 = some { kind := .struct [(0, 9), (1, 12)], size := 2, bytes := 24, zero := some (.agg [.str [], .int .u64 0]) } := by kernel_rfl
theorem ty15 : tyA Tryz.prog 15 = some { kind := .ptr, size := 1, bytes := 8, zero := some (.nilp) } := by kernel_rfl
theorem ty16 : tyA Tryz.prog 16 = some { kind := .ptr, size := 1, bytes := 8, zero := some (.nilp) } := by kernel_rfl
theorem ty17 : tyA Tryz.prog 17 = some { kind := .ptr, size := 1, bytes := 8, zero := some (.nilp) } := by kernel_rfl
theorem ty18 : tyA Tryz.prog 18 = some { kind := .struct [(0, 17)], size := 1, bytes := 8, zero := some (.agg [.nilp]) } := by kernel_rfl
theorem ty19 : tyA Tryz.prog 19 = some { kind := .struct [(0, 17)], size := 1, bytes := 8, zero := some (.agg [.nilp]) } := by kernel_rfl
theorem ty21 : tyA Tryz.prog 21 = some { kind := .int .i32, size := 1, bytes := 4, zero := some (.int .i32 0) } := by kernel_rfl
theorem ty22 : tyA Tryz.prog 22 = some { kind := .slice 3, size := 1, bytes := 24, zero := some (.dl 0 [] .full) } := by kernel_rfl
theorem ty24 : tyA Tryz.prog 24 = some { kind := .slice 80, size := 1, bytes := 24, zero := some (.dl 0 [] .full) } := by kernel_rfl
theorem ty27 : tyA Tryz.prog 27 = some { kind := .slice 53, size := 1, bytes := 24, zero := some (.dl 0 [] .full) } := by kernel_rfl
theorem ty29 : tyA Tryz.prog 29 = some { kind := .slice 52, size := 1, bytes := 24, zero := some (.dl 0 [] .full) } := by kernel_rfl
theorem ty31 : tyA Tryz.prog 31 = some { kind := .slice 24, size := 1, bytes := 24, zero := some (.dl 0 [] .full) } := by kernel_rfl
theorem ty32 : tyA Tryz.prog 32 = some { kind := .struct [(0, 3), (1, 3), (2, 22), (3, 22), (4, 27), (5, 27), (6, 27)], size := 7, bytes := 136, zero := some (.agg [.int .i64 0, .int .i64 0, .dl 0 [] .full, .dl 0 [] .full, .dl 0 [] .full, .dl 0 [] .full, .dl 0 [] .full]) } := by kernel_rfl
theorem ty33 : tyA Tryz.prog 33 = some { kind := .struct [(0, 3), (1, 3), (2, 22), (3, 22), (4, 27), (5, 27), (6, 27)], size := 7, bytes := 136, zero := some (.agg [.int .i64 0, .int .i64 0, .dl 0 [] .full, .dl 0 [] .full, .dl 0 [] .full, .dl 0 [] .full, .dl 0 [] .full]) } := by kernel_rfl
theorem ty34 : tyA Tryz.prog 34 = some { kind := .int .i64, size := 1, bytes := 8, zero := some (.int .i64 0) } := by kernel_rfl
theorem ty37 : tyA Tryz.prog 37 = some { kind := .slice 85, size := 1, bytes := 24, zero := some (.dl 0 [] .full) } := by kernel_rfl
theorem ty39 : tyA Tryz.prog 39 = some { kind := .slice 63, size := 1, bytes := 24, zero := some (.dl 0 [] .full) } := by kernel_rfl
theorem ty41 : tyA Tryz.prog 41 = some { kind := .struct [(0, 3), (1, 3), (2, 22), (3, 22), (4, 27), (5, 27), (6, 27)], size := 7, bytes := 136, zero := some (.agg [.int .i64 0, .int .i64 0, .dl 0 [] .full, .dl 0 [] .full, .dl 0 [] .full, .dl 0 [] .full, .dl 0 [] .full]) } := by kernel_rfl
theorem ty51 : tyA Tryz.prog 51 = some { kind := .slice 41, size := 1, bytes := 24, zero := some (.dl 0 [] .full) } := by kernel_rfl
theorem ty52 : tyA Tryz.prog 52 = some { kind := .slice 57, size := 1, bytes := 24, zero := some (.dl 0 [] .full) } := by kernel_rfl
theorem ty53 : tyA Tryz.prog 53 = some { kind := .int .u64, size := 1, bytes := 8, zero := some (.int .u64 0) } := by kernel_rfl
theorem ty54 : tyA Tryz.prog 54 = some { kind := .struct [(0, 3), (1, 3), (2, 3)], size := 3, bytes := 24, zero := some (.agg [.int .i64 0, .int .i64 0, .int .i64 0]) } := by kernel_rfl
theorem ty55 : tyA Tryz.prog 55 = some { kind := .struct [(0, 3), (1, 3), (2, 3)], size := 3, bytes := 24, zero := some (.agg [.int .i64 0, .int .i64 0, .int .i64 0]) } := by kernel_rfl
theorem ty56 : tyA Tryz.prog 56 = some { kind := .struct [(0, 55), (3, 53), (4, 27), (5, 27), (6, 53)], size := 7, bytes := 88, zero := some (.agg [.int .i64 0, .int .i64 0, .int .i64 0, .int .u64 0, .dl 0 [] .full, .dl 0 [] .full, .int .u64 0]) } := by kernel_rfl
theorem ty57 : tyA Tryz.prog 57 = some { kind := .struct [(0, 55), (3, 53), (4, 27), (5, 27), (6, 53)], size := 7, bytes := 88, zero := some (.agg [.int .i64 0, .int .i64 0, .int .i64 0, .int .u64 0, .dl 0 [] .full, .dl 0 [] .full, .int .u64 0]) } := by kernel_rfl
theorem ty58 : tyA Tryz.prog 58 = some { kind := .slice 29, size := 1, bytes := 24, zero := some (.dl 0 [] .full) } := by kernel_rfl
theorem ty63 : tyA Tryz.prog 63 = some { kind := .slice 64, size := 1, bytes := 24, zero := some (.dl 0 [] .full) } := by kernel_rfl
theorem ty64 : tyA Tryz.prog 64 = some { kind := .struct [(0, 55), (3, 53), (4, 27), (5, 27), (6, 53)], size := 7, bytes := 88, zero := some (.agg [.int .i64 0, .int .i64 0, .int .i64 0, .int .u64 0, .dl 0 [] .full, .dl 0 [] .full, .int .u64 0]) } := by kernel_rfl
theorem ty67 : tyA Tryz.prog 67 = some { kind := .slice 5, size := 1, bytes := 24, zero := some (.dl 0 [] .full) } := by kernel_rfl
theorem ty70 : tyA Tryz.prog 70 = some { kind := .ptr, size := 1, bytes := 8, zero := some (.nilp) } := by kernel_rfl
theorem ty76 : tyA Tryz.prog 76 = some { kind := .slice 67, size := 1, bytes := 24, zero := some (.dl 0 [] .full) } := by kernel_rfl
theorem ty78 : tyA Tryz.prog 78 = some { kind := .slice 9, size := 1, bytes := 24, zero := some (.dl 0 [] .full) } := by kernel_rfl
theorem ty79 : tyA Tryz.prog 79 = some { kind := .struct [(0, 3), (1, 9), (2, 3), (3, 3), (4, 3), (5, 53), (6, 4)], size := 7, bytes := 64, zero := some (.agg [.int .i64 0, .str [], .int .i64 0, .int .i64 0, .int .i64 0, .int .u64 0, .bool false]) } := by kernel_rfl
theorem ty80 : tyA Tryz.prog 80 = some { kind := .struct [(0, 3), (1, 9), (2, 3), (3, 3), (4, 3), (5, 53), (6, 4)], size := 7, bytes := 64, zero := some (.agg [.int .i64 0, .str [], .int .i64 0, .int .i64 0, .int .i64 0, .int .u64 0, .bool false]) } := by kernel_rfl
theorem ty84 : tyA Tryz.prog 84 = some { kind := .struct [(0, 3), (1, 3), (2, 9), (3, 3), (4, 3), (5, 3), (6, 53), (7, 4)], size := 8, bytes := 72, zero := some (.agg [.int .i64 0, .int .i64 0, .str [], .int .i64 0, .int .i64 0, .int .i64 0, .int .u64 0, .bool false]) } := by kernel_rfl
theorem ty85 : tyA Tryz.prog 85 = some { kind := .struct [(0, 3), (1, 3), (2, 9), (3, 3), (4, 3), (5, 3), (6, 53), (7, 4)], size := 8, bytes := 72, zero := some (.agg [.int .i64 0, .int .i64 0, .str [], .int .i64 0, .int .i64 0, .int .i64 0, .int .u64 0, .bool false]) } := by kernel_rfl
theorem ty100 : tyA Tryz.prog 100 = some { kind := .ptr, size := 1, bytes := 8, zero := some (.nilp) } := by kernel_rfl
theorem ty101 : tyA Tryz.prog 101 = some { kind := .struct [(0, 67)], size := 1, bytes := 24, zero := some (.agg [.dl 0 [] .full]) } := by kernel_rfl
theorem ty102 : tyA Tryz.prog 102 = some { kind := .struct [(0, 67)], size := 1, bytes := 24, zero := some (.agg [.dl 0 [] .full]) } := by kernel_rfl
theorem ty108 : tyA Tryz.prog 108 = some { kind := .ptr, size := 1, bytes := 8, zero := some (.nilp) } := by kernel_rfl
theorem ty109 : tyA Tryz.prog 109 = some { kind := .slice 108, size := 1, bytes := 24, zero := some (.dl 0 [] .full) } := by kernel_rfl
theorem ty113 : tyA Tryz.prog 113 = some { kind := .struct [(0, 67), (1, 34)], size := 2, bytes := 32, zero := some (.agg [.dl 0 [] .full, .int .i64 0]) } := by kernel_rfl
theorem ty114 : tyA Tryz.prog 114 = some { kind := .struct [(0, 67), (1, 34)], size := 2, bytes := 32, zero := some (.agg [.dl 0 [] .full, .int .i64 0]) } := by kernel_rfl
theorem ty138 : tyA Tryz.prog 138 = some { kind := .int .u64, size := 1, bytes := 8, zero := some (.int .u64 0) } := by kernel_rfl
theorem ty146 : tyA Tryz.prog 146 = some { kind := .int .i64, size := 1, bytes := 8, zero := some (.int .i64 0) } := by kernel_rfl
theorem ty155 : tyA Tryz.prog 155 = some { kind := .int .u32, size := 1, bytes := 4, zero := some (.int .u32 0) } := by kernel_rfl
theorem ty158 : tyA Tryz.prog 158 = some { kind := .int .u64, size := 1, bytes := 8, zero := some (.int .u64 0) } := by kernel_rfl
theorem ty161 : tyA Tryz.prog 161 = some { kind := .ptr, size := 1, bytes := 8, zero := some (.nilp) } := by kernel_rfl
theorem ty168 : tyA Tryz.prog 168 = some { kind := .ptr, size := 1, bytes := 8, zero := some (.nilp) } := by kernel_rfl
theorem ty176 : tyA Tryz.prog 176 = some { kind := .struct [(0, 17), (1, 17), (2, 17), (3, 9)], size := 4, bytes := 40, zero := some (.agg [.nilp, .nilp, .nilp, .str []]) } := by kernel_rfl
theorem ty177 : tyA Tryz.prog 177 = some { kind := .struct [(0, 17), (1, 17), (2, 17), (3, 9)], size := 4, bytes := 40, zero := some (.agg [.nilp, .nilp, .nilp, .str []]) } := by kernel_rfl
theorem ty178 : tyA Tryz.prog 178 = some { kind := .array 0 16, size := 0, bytes := 0, zero := some (.agg []) } := by kernel_rfl
theorem ty179 : tyA Tryz.prog 179 = some { kind := .struct [(0, 178)], size := 0, bytes := 0, zero := some (.agg []) } := by kernel_rfl
theorem ty180 : tyA Tryz.prog 180 = some { kind := .struct [(0, 178)], size := 0, bytes := 0, zero := some (.agg []) } := by kernel_rfl
theorem ty181 : tyA Tryz.prog 181 = some { kind := .int .u8, size := 1, bytes := 1, zero := some (.int .u8 0) } := by kernel_rfl
theorem ty182 : tyA Tryz.prog 182 = some { kind := .int .u8, size := 1, bytes := 1, zero := some (.int .u8 0) } := by kernel_rfl
theorem ty184 : tyA Tryz.prog 184 = some { kind := .ptr, size := 1, bytes := 8, zero := some (.nilp) } := by kernel_rfl
theorem ty185 : tyA Tryz.prog 185 = some { kind := .int .i32, size := 1, bytes := 4, zero := some (.int .i32 0) } := by kernel_rfl
theorem ty186 : tyA Tryz.prog 186 = some { kind := .int .i32, size := 1, bytes := 4, zero := some (.int .i32 0) } := by kernel_rfl
theorem ty187 : tyA Tryz.prog 187 = some { kind := .struct [(0, 12), (1, 12), (2, 155), (3, 181), (4, 5), (5, 5), (6, 182), (7, 183), (8, 184), (9, 185), (10, 186)], size := 11, bytes := 48, zero := some (.agg [.int .u64 0, .int .u64 0, .int .u32 0, .int .u8 0, .int .u8 0, .int .u8 0, .int .u8 0, .nilfn, .nilp, .int .i32 0, .int .i32 0]) } := by kernel_rfl
theorem ty188 : tyA Tryz.prog 188 = some { kind := .struct [(0, 12), (1, 12), (2, 155), (3, 181), (4, 5), (5, 5), (6, 182), (7, 183), (8, 184), (9, 185), (10, 186)], size := 11, bytes := 48, zero := some (.agg [.int .u64 0, .int .u64 0, .int .u32 0, .int .u8 0, .int .u8 0, .int .u8 0, .int .u8 0, .nilfn, .nilp, .int .i32 0, .int .i32 0]) } := by kernel_rfl
end Go.Av
end
