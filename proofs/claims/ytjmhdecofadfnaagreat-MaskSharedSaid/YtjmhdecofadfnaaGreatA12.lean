/- the layer over the model, part 12 -/
import Derived.Test.YtjmhdecofadfnaaGreatProg
import Derived.KernelRfl
import Derived.Test.YtjmhdecofadfnaaGreatA11
set_option autoImplicit false
set_option linter.unusedSimpArgs false
set_option linter.unusedVariables false
set_option linter.unnecessarySimpa false
section
namespace Go.Av
open Go.Proofs
theorem ty1 : tyA Tryz.prog 1 = some { kind := .func, size := 1, bytes := 8, zero := some (.nilfn) } := by kernel_rfl
theorem ty2 : tyA Tryz.prog 2 = some { kind := .int .i64, size := 1, bytes := 8, zero := some (.int .i64 0) } := by kernel_rfl
theorem ty3 : tyA Tryz.prog 3 = some { kind := .int .i64, size := 1, bytes := 8, zero := some (.int .i64 0) } := by kernel_rfl
theorem ty4 : tyA Tryz.prog 4 = some { kind := .bool, size := 1, bytes := 1, zero := some (.bool false) } := by kernel_rfl
theorem ty5 : tyA Tryz.prog 5 = some { kind := .int .u8, size := 1, bytes := 1, zero := some (.int .u8 0) } := by kernel_rfl
theorem ty6 : tyA Tryz.prog 6 = some { kind := .int .u8, size := 1, bytes := 1, zero := some (.int .u8 0) } := by kernel_rfl
theorem ty7 : tyA Tryz.prog 7 = some { kind := .struct [(0, 2), (1, 3), (2, 4), (3, 6)], size := 4, bytes := 24, zero := some (.agg [.int .i64 0, .int .i64 0, .bool false, .int .u8 0]) } := by kernel_rfl
theorem ty8 : tyA Tryz.prog 8 = some { kind := .struct [(0, 2), (1, 3), (2, 4), (3, 6)], size := 4, bytes := 24, zero := some (.agg [.int .i64 0, .int .i64 0, .bool false, .int .u8 0]) } := by kernel_rfl
theorem ty9 : tyA Tryz.prog 9 = some { kind := .str, size := 1, bytes := 16, zero := some (.str []) } := by kernel_rfl
theorem ty10 : tyA Tryz.prog 10 = some { kind := .str, size := 1, bytes := 16, zero := some (.str []) } := by kernel_rfl
theorem ty11 : tyA Tryz.prog 11 = some { kind := .str, size := 1, bytes := 16, zero := some (.str []) } := by kernel_rfl
theorem ty12 : tyA Tryz.prog 12 = some { kind := .int .u64, size := 1, bytes := 8, zero := some (.int .u64 0) } := by kernel_rfl
theorem ty13 : tyA Tryz.prog 13 = some { kind := .struct [(0, 9), (1, 12)], size := 2, bytes := 24, zero := some (.agg [.str [], .int .u64 0]) } := by kernel_rfl
theorem ty14 : tyA Tryz.prog 14 = some { kind := .struct [(0, 9), (1, 12)], size := 2, bytes := 24, zero := some (.agg [.str [], .int .u64 0]) } := by kernel_rfl
theorem ty15 : tyA Tryz.prog 15 = some { kind := .ptr, size := 1, bytes := 8, zero := some (.nilp) } := by kernel_rfl
theorem ty16 : tyA Tryz.prog 16 = some { kind := .ptr, size := 1, bytes := 8, zero := some (.nilp) } := by kernel_rfl
theorem ty17 : tyA Tryz.prog 17 = some { kind := .ptr, size := 1, bytes := 8, zero := some (.nilp) } := by kernel_rfl
theorem ty18 : tyA Tryz.prog 18 = some { kind := .struct [(0, 17)], size := 1, bytes := 8, zero := some (.agg [.nilp]) } := by kernel_rfl
theorem ty19 : tyA Tryz.prog 19 = some { kind := .struct [(0, 17)], size := 1, bytes := 8, zero := some (.agg [.nilp]) } := by kernel_rfl
theorem ty20 : tyA Tryz.prog 20 = some { kind := .iface, size := 1, bytes := 16, zero := some (.nilif) } := by kernel_rfl
theorem ty21 : tyA Tryz.prog 21 = some { kind := .int .i32, size := 1, bytes := 4, zero := some (.int .i32 0) } := by kernel_rfl
theorem ty22 : tyA Tryz.prog 22 = some { kind := .slice 3, size := 1, bytes := 24, zero := some (.dl 0 [] .full) } := by kernel_rfl
theorem ty23 : tyA Tryz.prog 23 = some { kind := .slice 95, size := 1, bytes := 24, zero := some (.dl 0 [] .full) } := by kernel_rfl
theorem ty24 : tyA Tryz.prog 24 = some { kind := .struct [(0, 3), (1, 3), (2, 23)], size := 3, bytes := 40, zero := some (.agg [.int .i64 0, .int .i64 0, .dl 0 [] .full]) } := by kernel_rfl
theorem ty25 : tyA Tryz.prog 25 = some { kind := .struct [(0, 3), (1, 3), (2, 23)], size := 3, bytes := 40, zero := some (.agg [.int .i64 0, .int .i64 0, .dl 0 [] .full]) } := by kernel_rfl
theorem ty26 : tyA Tryz.prog 26 = some { kind := .func, size := 1, bytes := 8, zero := some (.nilfn) } := by kernel_rfl
theorem ty27 : tyA Tryz.prog 27 = some { kind := .func, size := 1, bytes := 8, zero := some (.nilfn) } := by kernel_rfl
theorem ty28 : tyA Tryz.prog 28 = some { kind := .func, size := 1, bytes := 8, zero := some (.nilfn) } := by kernel_rfl
theorem ty29 : tyA Tryz.prog 29 = some { kind := .func, size := 1, bytes := 8, zero := some (.nilfn) } := by kernel_rfl
theorem ty30 : tyA Tryz.prog 30 = some { kind := .slice 25, size := 1, bytes := 24, zero := some (.dl 0 [] .full) } := by kernel_rfl
theorem ty31 : tyA Tryz.prog 31 = some { kind := .int .i64, size := 1, bytes := 8, zero := some (.int .i64 0) } := by kernel_rfl
theorem ty32 : tyA Tryz.prog 32 = some { kind := .func, size := 1, bytes := 8, zero := some (.nilfn) } := by kernel_rfl
theorem ty33 : tyA Tryz.prog 33 = some { kind := .func, size := 1, bytes := 8, zero := some (.nilfn) } := by kernel_rfl
theorem ty34 : tyA Tryz.prog 34 = some { kind := .func, size := 1, bytes := 8, zero := some (.nilfn) } := by kernel_rfl
theorem ty35 : tyA Tryz.prog 35 = some { kind := .func, size := 1, bytes := 8, zero := some (.nilfn) } := by kernel_rfl
theorem ty36 : tyA Tryz.prog 36 = some { kind := .func, size := 1, bytes := 8, zero := some (.nilfn) } := by kernel_rfl
theorem ty37 : tyA Tryz.prog 37 = some { kind := .func, size := 1, bytes := 8, zero := some (.nilfn) } := by kernel_rfl
theorem ty38 : tyA Tryz.prog 38 = some { kind := .struct [(0, 3), (1, 3), (2, 3), (3, 3)], size := 4, bytes := 32, zero := some (.agg [.int .i64 0, .int .i64 0, .int .i64 0, .int .i64 0]) } := by kernel_rfl
theorem ty39 : tyA Tryz.prog 39 = some { kind := .struct [(0, 3), (1, 3), (2, 3), (3, 3)], size := 4, bytes := 32, zero := some (.agg [.int .i64 0, .int .i64 0, .int .i64 0, .int .i64 0]) } := by kernel_rfl
theorem ty40 : tyA Tryz.prog 40 = some { kind := .slice 39, size := 1, bytes := 24, zero := some (.dl 0 [] .full) } := by kernel_rfl
theorem ty42 : tyA Tryz.prog 42 = some { kind := .func, size := 1, bytes := 8, zero := some (.nilfn) } := by kernel_rfl
theorem ty43 : tyA Tryz.prog 43 = some { kind := .func, size := 1, bytes := 8, zero := some (.nilfn) } := by kernel_rfl
theorem ty44 : tyA Tryz.prog 44 = some { kind := .slice 81, size := 1, bytes := 24, zero := some (.dl 0 [] .full) } := by kernel_rfl
theorem ty45 : tyA Tryz.prog 45 = some { kind := .struct [(0, 44)], size := 1, bytes := 24, zero := some (.agg [.dl 0 [] .full]) } := by kernel_rfl
theorem ty46 : tyA Tryz.prog 46 = some { kind := .struct [(0, 44)], size := 1, bytes := 24, zero := some (.agg [.dl 0 [] .full]) } := by kernel_rfl
theorem ty47 : tyA Tryz.prog 47 = some { kind := .func, size := 1, bytes := 8, zero := some (.nilfn) } := by kernel_rfl
theorem ty48 : tyA Tryz.prog 48 = some { kind := .func, size := 1, bytes := 8, zero := some (.nilfn) } := by kernel_rfl
theorem ty49 : tyA Tryz.prog 49 = some { kind := .slice 46, size := 1, bytes := 24, zero := some (.dl 0 [] .full) } := by kernel_rfl
theorem ty50 : tyA Tryz.prog 50 = some { kind := .func, size := 1, bytes := 8, zero := some (.nilfn) } := by kernel_rfl
theorem ty51 : tyA Tryz.prog 51 = some { kind := .func, size := 1, bytes := 8, zero := some (.nilfn) } := by kernel_rfl
theorem ty52 : tyA Tryz.prog 52 = some { kind := .func, size := 1, bytes := 8, zero := some (.nilfn) } := by kernel_rfl
theorem ty53 : tyA Tryz.prog 53 = some { kind := .slice 180, size := 1, bytes := 24, zero := some (.dl 0 [] .full) } := by kernel_rfl
theorem ty54 : tyA Tryz.prog 54 = some { kind := .struct [(0, 4), (1, 53)], size := 2, bytes := 32, zero := some (.agg [.bool false, .dl 0 [] .full]) } := by kernel_rfl
theorem ty55 : tyA Tryz.prog 55 = some { kind := .struct [(0, 4), (1, 53)], size := 2, bytes := 32, zero := some (.agg [.bool false, .dl 0 [] .full]) } := by kernel_rfl
theorem ty56 : tyA Tryz.prog 56 = some { kind := .struct [(0, 55), (2, 55)], size := 4, bytes := 64, zero := some (.agg [.bool false, .dl 0 [] .full, .bool false, .dl 0 [] .full]) } := by kernel_rfl
theorem ty57 : tyA Tryz.prog 57 = some { kind := .struct [(0, 55), (2, 55)], size := 4, bytes := 64, zero := some (.agg [.bool false, .dl 0 [] .full, .bool false, .dl 0 [] .full]) } := by kernel_rfl
theorem ty59 : tyA Tryz.prog 59 = some { kind := .func, size := 1, bytes := 8, zero := some (.nilfn) } := by kernel_rfl
theorem ty61 : tyA Tryz.prog 61 = some { kind := .func, size := 1, bytes := 8, zero := some (.nilfn) } := by kernel_rfl
theorem ty62 : tyA Tryz.prog 62 = some { kind := .func, size := 1, bytes := 8, zero := some (.nilfn) } := by kernel_rfl
theorem ty63 : tyA Tryz.prog 63 = some { kind := .slice 5, size := 1, bytes := 24, zero := some (.dl 0 [] .full) } := by kernel_rfl
theorem ty64 : tyA Tryz.prog 64 = some { kind := .func, size := 1, bytes := 8, zero := some (.nilfn) } := by kernel_rfl
theorem ty65 : tyA Tryz.prog 65 = some { kind := .func, size := 1, bytes := 8, zero := some (.nilfn) } := by kernel_rfl
theorem ty66 : tyA Tryz.prog 66 = some { kind := .ptr, size := 1, bytes := 8, zero := some (.nilp) } := by kernel_rfl
theorem ty67 : tyA Tryz.prog 67 = some { kind := .func, size := 1, bytes := 8, zero := some (.nilfn) } := by kernel_rfl
theorem ty68 : tyA Tryz.prog 68 = some { kind := .func, size := 1, bytes := 8, zero := some (.nilfn) } := by kernel_rfl
theorem ty69 : tyA Tryz.prog 69 = some { kind := .slice 63, size := 1, bytes := 24, zero := some (.dl 0 [] .full) } := by kernel_rfl
theorem ty70 : tyA Tryz.prog 70 = some { kind := .func, size := 1, bytes := 8, zero := some (.nilfn) } := by kernel_rfl
theorem ty71 : tyA Tryz.prog 71 = some { kind := .func, size := 1, bytes := 8, zero := some (.nilfn) } := by kernel_rfl
theorem ty72 : tyA Tryz.prog 72 = some { kind := .func, size := 1, bytes := 8, zero := some (.nilfn) } := by kernel_rfl
theorem ty73 : tyA Tryz.prog 73 = some { kind := .slice 22, size := 1, bytes := 24, zero := some (.dl 0 [] .full) } := by kernel_rfl
theorem ty74 : tyA Tryz.prog 74 = some { kind := .func, size := 1, bytes := 8, zero := some (.nilfn) } := by kernel_rfl
theorem ty75 : tyA Tryz.prog 75 = some { kind := .func, size := 1, bytes := 8, zero := some (.nilfn) } := by kernel_rfl
theorem ty76 : tyA Tryz.prog 76 = some { kind := .func, size := 1, bytes := 8, zero := some (.nilfn) } := by kernel_rfl
theorem ty77 : tyA Tryz.prog 77 = some { kind := .func, size := 1, bytes := 8, zero := some (.nilfn) } := by kernel_rfl
theorem ty78 : tyA Tryz.prog 78 = some { kind := .func, size := 1, bytes := 8, zero := some (.nilfn) } := by kernel_rfl
theorem ty79 : tyA Tryz.prog 79 = some { kind := .struct [(0, 3), (1, 3)], size := 2, bytes := 16, zero := some (.agg [.int .i64 0, .int .i64 0]) } := by kernel_rfl
theorem ty80 : tyA Tryz.prog 80 = some { kind := .struct [(0, 3), (1, 3)], size := 2, bytes := 16, zero := some (.agg [.int .i64 0, .int .i64 0]) } := by kernel_rfl
theorem ty81 : tyA Tryz.prog 81 = some { kind := .slice 80, size := 1, bytes := 24, zero := some (.dl 0 [] .full) } := by kernel_rfl
theorem ty82 : tyA Tryz.prog 82 = some { kind := .func, size := 1, bytes := 8, zero := some (.nilfn) } := by kernel_rfl
theorem ty84 : tyA Tryz.prog 84 = some { kind := .func, size := 1, bytes := 8, zero := some (.nilfn) } := by kernel_rfl
theorem ty85 : tyA Tryz.prog 85 = some { kind := .func, size := 1, bytes := 8, zero := some (.nilfn) } := by kernel_rfl
theorem ty86 : tyA Tryz.prog 86 = some { kind := .func, size := 1, bytes := 8, zero := some (.nilfn) } := by kernel_rfl
theorem ty87 : tyA Tryz.prog 87 = some { kind := .func, size := 1, bytes := 8, zero := some (.nilfn) } := by kernel_rfl
theorem ty88 : tyA Tryz.prog 88 = some { kind := .slice 4, size := 1, bytes := 24, zero := some (.dl 0 [] .full) } := by kernel_rfl
theorem ty89 : tyA Tryz.prog 89 = some { kind := .struct [(0, 3), (1, 3), (2, 88)], size := 3, bytes := 40, zero := some (.agg [.int .i64 0, .int .i64 0, .dl 0 [] .full]) } := by kernel_rfl
theorem ty90 : tyA Tryz.prog 90 = some { kind := .struct [(0, 3), (1, 3), (2, 88)], size := 3, bytes := 40, zero := some (.agg [.int .i64 0, .int .i64 0, .dl 0 [] .full]) } := by kernel_rfl
theorem ty91 : tyA Tryz.prog 91 = some { kind := .func, size := 1, bytes := 8, zero := some (.nilfn) } := by kernel_rfl
theorem ty92 : tyA Tryz.prog 92 = some { kind := .func, size := 1, bytes := 8, zero := some (.nilfn) } := by kernel_rfl
theorem ty93 : tyA Tryz.prog 93 = some { kind := .func, size := 1, bytes := 8, zero := some (.nilfn) } := by kernel_rfl
theorem ty94 : tyA Tryz.prog 94 = some { kind := .struct [(0, 3), (1, 3), (2, 3)], size := 3, bytes := 24, zero := some (.agg [.int .i64 0, .int .i64 0, .int .i64 0]) } := by kernel_rfl
theorem ty95 : tyA Tryz.prog 95 = some { kind := .struct [(0, 3), (1, 3), (2, 3)], size := 3, bytes := 24, zero := some (.agg [.int .i64 0, .int .i64 0, .int .i64 0]) } := by kernel_rfl
theorem ty96 : tyA Tryz.prog 96 = some { kind := .func, size := 1, bytes := 8, zero := some (.nilfn) } := by kernel_rfl
theorem ty97 : tyA Tryz.prog 97 = some { kind := .func, size := 1, bytes := 8, zero := some (.nilfn) } := by kernel_rfl
theorem ty98 : tyA Tryz.prog 98 = some { kind := .func, size := 1, bytes := 8, zero := some (.nilfn) } := by kernel_rfl
theorem ty99 : tyA Tryz.prog 99 = some { kind := .func, size := 1, bytes := 8, zero := some (.nilfn) } := by kernel_rfl
theorem ty100 : tyA Tryz.prog 100 = some { kind := .func, size := 1, bytes := 8, zero := some (.nilfn) } := by kernel_rfl
theorem ty101 : tyA Tryz.prog 101 = some { kind := .func, size := 1, bytes := 8, zero := some (.nilfn) } := by kernel_rfl
theorem ty102 : tyA Tryz.prog 102 = some { kind := .func, size := 1, bytes := 8, zero := some (.nilfn) } := by kernel_rfl
theorem ty103 : tyA Tryz.prog 103 = some { kind := .ptr, size := 1, bytes := 8, zero := some (.nilp) } := by kernel_rfl
theorem ty104 : tyA Tryz.prog 104 = some { kind := .func, size := 1, bytes := 8, zero := some (.nilfn) } := by kernel_rfl
theorem ty105 : tyA Tryz.prog 105 = some { kind := .func, size := 1, bytes := 8, zero := some (.nilfn) } := by kernel_rfl
theorem ty106 : tyA Tryz.prog 106 = some { kind := .func, size := 1, bytes := 8, zero := some (.nilfn) } := by kernel_rfl
theorem ty108 : tyA Tryz.prog 108 = some { kind := .func, size := 1, bytes := 8, zero := some (.nilfn) } := by kernel_rfl
theorem ty109 : tyA Tryz.prog 109 = some { kind := .struct [(0, 4), (1, 22)], size := 2, bytes := 32, zero := some (.agg [.bool false, .dl 0 [] .full]) } := by kernel_rfl
theorem ty110 : tyA Tryz.prog 110 = some { kind := .struct [(0, 4), (1, 22)], size := 2, bytes := 32, zero := some (.agg [.bool false, .dl 0 [] .full]) } := by kernel_rfl
theorem ty111 : tyA Tryz.prog 111 = some { kind := .struct [(0, 110), (2, 110)], size := 4, bytes := 64, zero := some (.agg [.bool false, .dl 0 [] .full, .bool false, .dl 0 [] .full]) } := by kernel_rfl
theorem ty112 : tyA Tryz.prog 112 = some { kind := .struct [(0, 110), (2, 110)], size := 4, bytes := 64, zero := some (.agg [.bool false, .dl 0 [] .full, .bool false, .dl 0 [] .full]) } := by kernel_rfl
theorem ty113 : tyA Tryz.prog 113 = some { kind := .func, size := 1, bytes := 8, zero := some (.nilfn) } := by kernel_rfl
theorem ty114 : tyA Tryz.prog 114 = some { kind := .func, size := 1, bytes := 8, zero := some (.nilfn) } := by kernel_rfl
theorem ty115 : tyA Tryz.prog 115 = some { kind := .slice 118, size := 1, bytes := 24, zero := some (.dl 0 [] .full) } := by kernel_rfl
theorem ty116 : tyA Tryz.prog 116 = some { kind := .func, size := 1, bytes := 8, zero := some (.nilfn) } := by kernel_rfl
theorem ty117 : tyA Tryz.prog 117 = some { kind := .struct [(0, 80), (2, 80), (4, 3), (5, 3)], size := 6, bytes := 48, zero := some (.agg [.int .i64 0, .int .i64 0, .int .i64 0, .int .i64 0, .int .i64 0, .int .i64 0]) } := by kernel_rfl
theorem ty118 : tyA Tryz.prog 118 = some { kind := .struct [(0, 80), (2, 80), (4, 3), (5, 3)], size := 6, bytes := 48, zero := some (.agg [.int .i64 0, .int .i64 0, .int .i64 0, .int .i64 0, .int .i64 0, .int .i64 0]) } := by kernel_rfl
theorem ty119 : tyA Tryz.prog 119 = some { kind := .func, size := 1, bytes := 8, zero := some (.nilfn) } := by kernel_rfl
theorem ty120 : tyA Tryz.prog 120 = some { kind := .func, size := 1, bytes := 8, zero := some (.nilfn) } := by kernel_rfl
theorem ty121 : tyA Tryz.prog 121 = some { kind := .func, size := 1, bytes := 8, zero := some (.nilfn) } := by kernel_rfl
theorem ty122 : tyA Tryz.prog 122 = some { kind := .func, size := 1, bytes := 8, zero := some (.nilfn) } := by kernel_rfl
theorem ty123 : tyA Tryz.prog 123 = some { kind := .func, size := 1, bytes := 8, zero := some (.nilfn) } := by kernel_rfl
theorem ty124 : tyA Tryz.prog 124 = some { kind := .func, size := 1, bytes := 8, zero := some (.nilfn) } := by kernel_rfl
theorem ty125 : tyA Tryz.prog 125 = some { kind := .func, size := 1, bytes := 8, zero := some (.nilfn) } := by kernel_rfl
theorem ty126 : tyA Tryz.prog 126 = some { kind := .func, size := 1, bytes := 8, zero := some (.nilfn) } := by kernel_rfl
theorem ty128 : tyA Tryz.prog 128 = some { kind := .func, size := 1, bytes := 8, zero := some (.nilfn) } := by kernel_rfl
theorem ty129 : tyA Tryz.prog 129 = some { kind := .func, size := 1, bytes := 8, zero := some (.nilfn) } := by kernel_rfl
theorem ty130 : tyA Tryz.prog 130 = some { kind := .func, size := 1, bytes := 8, zero := some (.nilfn) } := by kernel_rfl
theorem ty132 : tyA Tryz.prog 132 = some { kind := .func, size := 1, bytes := 8, zero := some (.nilfn) } := by kernel_rfl
theorem ty133 : tyA Tryz.prog 133 = some { kind := .struct [(0, 63)], size := 1, bytes := 24, zero := some (.agg [.dl 0 [] .full]) } := by kernel_rfl
theorem ty134 : tyA Tryz.prog 134 = some { kind := .struct [(0, 63)], size := 1, bytes := 24, zero := some (.agg [.dl 0 [] .full]) } := by kernel_rfl
theorem ty135 : tyA Tryz.prog 135 = some { kind := .func, size := 1, bytes := 8, zero := some (.nilfn) } := by kernel_rfl
theorem ty136 : tyA Tryz.prog 136 = some { kind := .func, size := 1, bytes := 8, zero := some (.nilfn) } := by kernel_rfl
theorem ty137 : tyA Tryz.prog 137 = some { kind := .func, size := 1, bytes := 8, zero := some (.nilfn) } := by kernel_rfl
theorem ty138 : tyA Tryz.prog 138 = some { kind := .func, size := 1, bytes := 8, zero := some (.nilfn) } := by kernel_rfl
theorem ty139 : tyA Tryz.prog 139 = some { kind := .struct [(0, 63), (1, 31)], size := 2, bytes := 32, zero := some (.agg [.dl 0 [] .full, .int .i64 0]) } := by kernel_rfl
theorem ty140 : tyA Tryz.prog 140 = some { kind := .struct [(0, 63), (1, 31)], size := 2, bytes := 32, zero := some (.agg [.dl 0 [] .full, .int .i64 0]) } := by kernel_rfl
theorem ty141 : tyA Tryz.prog 141 = some { kind := .func, size := 1, bytes := 8, zero := some (.nilfn) } := by kernel_rfl
theorem ty142 : tyA Tryz.prog 142 = some { kind := .func, size := 1, bytes := 8, zero := some (.nilfn) } := by kernel_rfl
theorem ty143 : tyA Tryz.prog 143 = some { kind := .int .u64, size := 1, bytes := 8, zero := some (.int .u64 0) } := by kernel_rfl
theorem ty144 : tyA Tryz.prog 144 = some { kind := .func, size := 1, bytes := 8, zero := some (.nilfn) } := by kernel_rfl
theorem ty145 : tyA Tryz.prog 145 = some { kind := .func, size := 1, bytes := 8, zero := some (.nilfn) } := by kernel_rfl
theorem ty146 : tyA Tryz.prog 146 = some { kind := .func, size := 1, bytes := 8, zero := some (.nilfn) } := by kernel_rfl
theorem ty147 : tyA Tryz.prog 147 = some { kind := .map 3 3, size := 1, bytes := 8, zero := some (.map none) } := by kernel_rfl
theorem ty149 : tyA Tryz.prog 149 = some { kind := .slice 23, size := 1, bytes := 24, zero := some (.dl 0 [] .full) } := by kernel_rfl
theorem ty150 : tyA Tryz.prog 150 = some { kind := .func, size := 1, bytes := 8, zero := some (.nilfn) } := by kernel_rfl
theorem ty151 : tyA Tryz.prog 151 = some { kind := .func, size := 1, bytes := 8, zero := some (.nilfn) } := by kernel_rfl
theorem ty152 : tyA Tryz.prog 152 = some { kind := .func, size := 1, bytes := 8, zero := some (.nilfn) } := by kernel_rfl
theorem ty153 : tyA Tryz.prog 153 = some { kind := .func, size := 1, bytes := 8, zero := some (.nilfn) } := by kernel_rfl
theorem ty154 : tyA Tryz.prog 154 = some { kind := .func, size := 1, bytes := 8, zero := some (.nilfn) } := by kernel_rfl
theorem ty155 : tyA Tryz.prog 155 = some { kind := .func, size := 1, bytes := 8, zero := some (.nilfn) } := by kernel_rfl
theorem ty156 : tyA Tryz.prog 156 = some { kind := .func, size := 1, bytes := 8, zero := some (.nilfn) } := by kernel_rfl
theorem ty157 : tyA Tryz.prog 157 = some { kind := .func, size := 1, bytes := 8, zero := some (.nilfn) } := by kernel_rfl
theorem ty158 : tyA Tryz.prog 158 = some { kind := .func, size := 1, bytes := 8, zero := some (.nilfn) } := by kernel_rfl
theorem ty160 : tyA Tryz.prog 160 = some { kind := .func, size := 1, bytes := 8, zero := some (.nilfn) } := by kernel_rfl
theorem ty161 : tyA Tryz.prog 161 = some { kind := .func, size := 1, bytes := 8, zero := some (.nilfn) } := by kernel_rfl
theorem ty162 : tyA Tryz.prog 162 = some { kind := .func, size := 1, bytes := 8, zero := some (.nilfn) } := by kernel_rfl
theorem ty163 : tyA Tryz.prog 163 = some { kind := .func, size := 1, bytes := 8, zero := some (.nilfn) } := by kernel_rfl
theorem ty164 : tyA Tryz.prog 164 = some { kind := .func, size := 1, bytes := 8, zero := some (.nilfn) } := by kernel_rfl
theorem ty165 : tyA Tryz.prog 165 = some { kind := .func, size := 1, bytes := 8, zero := some (.nilfn) } := by kernel_rfl
theorem ty166 : tyA Tryz.prog 166 = some { kind := .func, size := 1, bytes := 8, zero := some (.nilfn) } := by kernel_rfl
theorem ty167 : tyA Tryz.prog 167 = some { kind := .func, size := 1, bytes := 8, zero := some (.nilfn) } := by kernel_rfl
theorem ty168 : tyA Tryz.prog 168 = some { kind := .func, size := 1, bytes := 8, zero := some (.nilfn) } := by kernel_rfl
theorem ty169 : tyA Tryz.prog 169 = some { kind := .func, size := 1, bytes := 8, zero := some (.nilfn) } := by kernel_rfl
theorem ty170 : tyA Tryz.prog 170 = some { kind := .func, size := 1, bytes := 8, zero := some (.nilfn) } := by kernel_rfl
theorem ty171 : tyA Tryz.prog 171 = some { kind := .struct [(0, 80), (2, 80)], size := 4, bytes := 32, zero := some (.agg [.int .i64 0, .int .i64 0, .int .i64 0, .int .i64 0]) } := by kernel_rfl
theorem ty172 : tyA Tryz.prog 172 = some { kind := .struct [(0, 80), (2, 80)], size := 4, bytes := 32, zero := some (.agg [.int .i64 0, .int .i64 0, .int .i64 0, .int .i64 0]) } := by kernel_rfl
theorem ty173 : tyA Tryz.prog 173 = some { kind := .func, size := 1, bytes := 8, zero := some (.nilfn) } := by kernel_rfl
theorem ty174 : tyA Tryz.prog 174 = some { kind := .func, size := 1, bytes := 8, zero := some (.nilfn) } := by kernel_rfl
theorem ty175 : tyA Tryz.prog 175 = some { kind := .func, size := 1, bytes := 8, zero := some (.nilfn) } := by kernel_rfl
theorem ty176 : tyA Tryz.prog 176 = some { kind := .func, size := 1, bytes := 8, zero := some (.nilfn) } := by kernel_rfl
theorem ty177 : tyA Tryz.prog 177 = some { kind := .func, size := 1, bytes := 8, zero := some (.nilfn) } := by kernel_rfl
theorem ty179 : tyA Tryz.prog 179 = some { kind := .func, size := 1, bytes := 8, zero := some (.nilfn) } := by kernel_rfl
theorem ty180 : tyA Tryz.prog 180 = some { kind := .int .u32, size := 1, bytes := 4, zero := some (.int .u32 0) } := by kernel_rfl
theorem ty181 : tyA Tryz.prog 181 = some { kind := .int .u64, size := 1, bytes := 8, zero := some (.int .u64 0) } := by kernel_rfl
theorem ty182 : tyA Tryz.prog 182 = some { kind := .slice 57, size := 1, bytes := 24, zero := some (.dl 0 [] .full) } := by kernel_rfl
theorem ty183 : tyA Tryz.prog 183 = some { kind := .func, size := 1, bytes := 8, zero := some (.nilfn) } := by kernel_rfl
theorem ty184 : tyA Tryz.prog 184 = some { kind := .func, size := 1, bytes := 8, zero := some (.nilfn) } := by kernel_rfl
theorem ty185 : tyA Tryz.prog 185 = some { kind := .ptr, size := 1, bytes := 8, zero := some (.nilp) } := by kernel_rfl
theorem ty186 : tyA Tryz.prog 186 = some { kind := .func, size := 1, bytes := 8, zero := some (.nilfn) } := by kernel_rfl
theorem ty187 : tyA Tryz.prog 187 = some { kind := .func, size := 1, bytes := 8, zero := some (.nilfn) } := by kernel_rfl
theorem ty188 : tyA Tryz.prog 188 = some { kind := .func, size := 1, bytes := 8, zero := some (.nilfn) } := by kernel_rfl
theorem ty189 : tyA Tryz.prog 189 = some { kind := .func, size := 1, bytes := 8, zero := some (.nilfn) } := by kernel_rfl
theorem ty190 : tyA Tryz.prog 190 = some { kind := .func, size := 1, bytes := 8, zero := some (.nilfn) } := by kernel_rfl
theorem ty191 : tyA Tryz.prog 191 = some { kind := .func, size := 1, bytes := 8, zero := some (.nilfn) } := by kernel_rfl
theorem ty192 : tyA Tryz.prog 192 = some { kind := .func, size := 1, bytes := 8, zero := some (.nilfn) } := by kernel_rfl
theorem ty193 : tyA Tryz.prog 193 = some { kind := .func, size := 1, bytes := 8, zero := some (.nilfn) } := by kernel_rfl
theorem ty194 : tyA Tryz.prog 194 = some { kind := .func, size := 1, bytes := 8, zero := some (.nilfn) } := by kernel_rfl
theorem ty195 : tyA Tryz.prog 195 = some { kind := .func, size := 1, bytes := 8, zero := some (.nilfn) } := by kernel_rfl
theorem ty196 : tyA Tryz.prog 196 = some { kind := .func, size := 1, bytes := 8, zero := some (.nilfn) } := by kernel_rfl
theorem ty197 : tyA Tryz.prog 197 = some { kind := .func, size := 1, bytes := 8, zero := some (.nilfn) } := by kernel_rfl
theorem ty198 : tyA Tryz.prog 198 = some { kind := .func, size := 1, bytes := 8, zero := some (.nilfn) } := by kernel_rfl
theorem ty199 : tyA Tryz.prog 199 = some { kind := .func, size := 1, bytes := 8, zero := some (.nilfn) } := by kernel_rfl
theorem ty200 : tyA Tryz.prog 200 = some { kind := .func, size := 1, bytes := 8, zero := some (.nilfn) } := by kernel_rfl
theorem ty201 : tyA Tryz.prog 201 = some { kind := .func, size := 1, bytes := 8, zero := some (.nilfn) } := by kernel_rfl
theorem ty202 : tyA Tryz.prog 202 = some { kind := .func, size := 1, bytes := 8, zero := some (.nilfn) } := by kernel_rfl
theorem ty204 : tyA Tryz.prog 204 = some { kind := .func, size := 1, bytes := 8, zero := some (.nilfn) } := by kernel_rfl
theorem ty205 : tyA Tryz.prog 205 = some { kind := .func, size := 1, bytes := 8, zero := some (.nilfn) } := by kernel_rfl
theorem ty206 : tyA Tryz.prog 206 = some { kind := .func, size := 1, bytes := 8, zero := some (.nilfn) } := by kernel_rfl
theorem ty207 : tyA Tryz.prog 207 = some { kind := .func, size := 1, bytes := 8, zero := some (.nilfn) } := by kernel_rfl
theorem ty209 : tyA Tryz.prog 209 = some { kind := .func, size := 1, bytes := 8, zero := some (.nilfn) } := by kernel_rfl
theorem ty210 : tyA Tryz.prog 210 = some { kind := .func, size := 1, bytes := 8, zero := some (.nilfn) } := by kernel_rfl
theorem ty211 : tyA Tryz.prog 211 = some { kind := .func, size := 1, bytes := 8, zero := some (.nilfn) } := by kernel_rfl
theorem ty213 : tyA Tryz.prog 213 = some { kind := .func, size := 1, bytes := 8, zero := some (.nilfn) } := by kernel_rfl
theorem ty214 : tyA Tryz.prog 214 = some { kind := .func, size := 1, bytes := 8, zero := some (.nilfn) } := by kernel_rfl
theorem ty215 : tyA Tryz.prog 215 = some { kind := .func, size := 1, bytes := 8, zero := some (.nilfn) } := by kernel_rfl
theorem ty216 : tyA Tryz.prog 216 = some { kind := .func, size := 1, bytes := 8, zero := some (.nilfn) } := by kernel_rfl
theorem ty217 : tyA Tryz.prog 217 = some { kind := .func, size := 1, bytes := 8, zero := some (.nilfn) } := by kernel_rfl
theorem ty218 : tyA Tryz.prog 218 = some { kind := .func, size := 1, bytes := 8, zero := some (.nilfn) } := by kernel_rfl
theorem ty219 : tyA Tryz.prog 219 = some { kind := .func, size := 1, bytes := 8, zero := some (.nilfn) } := by kernel_rfl
theorem ty220 : tyA Tryz.prog 220 = some { kind := .func, size := 1, bytes := 8, zero := some (.nilfn) } := by kernel_rfl
theorem ty221 : tyA Tryz.prog 221 = some { kind := .int .i64, size := 1, bytes := 8, zero := some (.int .i64 0) } := by kernel_rfl
theorem ty223 : tyA Tryz.prog 223 = some { kind := .func, size := 1, bytes := 8, zero := some (.nilfn) } := by kernel_rfl
theorem ty224 : tyA Tryz.prog 224 = some { kind := .func, size := 1, bytes := 8, zero := some (.nilfn) } := by kernel_rfl
theorem ty225 : tyA Tryz.prog 225 = some { kind := .func, size := 1, bytes := 8, zero := some (.nilfn) } := by kernel_rfl
theorem ty226 : tyA Tryz.prog 226 = some { kind := .func, size := 1, bytes := 8, zero := some (.nilfn) } := by kernel_rfl
theorem ty227 : tyA Tryz.prog 227 = some { kind := .func, size := 1, bytes := 8, zero := some (.nilfn) } := by kernel_rfl
theorem ty228 : tyA Tryz.prog 228 = some { kind := .func, size := 1, bytes := 8, zero := some (.nilfn) } := by kernel_rfl
theorem ty229 : tyA Tryz.prog 229 = some { kind := .func, size := 1, bytes := 8, zero := some (.nilfn) } := by kernel_rfl
theorem ty230 : tyA Tryz.prog 230 = some { kind := .func, size := 1, bytes := 8, zero := some (.nilfn) } := by kernel_rfl
theorem ty231 : tyA Tryz.prog 231 = some { kind := .func, size := 1, bytes := 8, zero := some (.nilfn) } := by kernel_rfl
theorem ty232 : tyA Tryz.prog 232 = some { kind := .func, size := 1, bytes := 8, zero := some (.nilfn) } := by kernel_rfl
theorem ty233 : tyA Tryz.prog 233 = some { kind := .func, size := 1, bytes := 8, zero := some (.nilfn) } := by kernel_rfl
theorem ty234 : tyA Tryz.prog 234 = some { kind := .func, size := 1, bytes := 8, zero := some (.nilfn) } := by kernel_rfl
theorem ty236 : tyA Tryz.prog 236 = some { kind := .func, size := 1, bytes := 8, zero := some (.nilfn) } := by kernel_rfl
theorem ty237 : tyA Tryz.prog 237 = some { kind := .func, size := 1, bytes := 8, zero := some (.nilfn) } := by kernel_rfl
theorem ty238 : tyA Tryz.prog 238 = some { kind := .func, size := 1, bytes := 8, zero := some (.nilfn) } := by kernel_rfl
theorem ty239 : tyA Tryz.prog 239 = some { kind := .func, size := 1, bytes := 8, zero := some (.nilfn) } := by kernel_rfl
theorem ty240 : tyA Tryz.prog 240 = some { kind := .func, size := 1, bytes := 8, zero := some (.nilfn) } := by kernel_rfl
theorem ty242 : tyA Tryz.prog 242 = some { kind := .func, size := 1, bytes := 8, zero := some (.nilfn) } := by kernel_rfl
theorem ty243 : tyA Tryz.prog 243 = some { kind := .func, size := 1, bytes := 8, zero := some (.nilfn) } := by kernel_rfl
theorem ty244 : tyA Tryz.prog 244 = some { kind := .func, size := 1, bytes := 8, zero := some (.nilfn) } := by kernel_rfl
theorem ty245 : tyA Tryz.prog 245 = some { kind := .func, size := 1, bytes := 8, zero := some (.nilfn) } := by kernel_rfl
theorem ty246 : tyA Tryz.prog 246 = some { kind := .func, size := 1, bytes := 8, zero := some (.nilfn) } := by kernel_rfl
theorem ty247 : tyA Tryz.prog 247 = some { kind := .func, size := 1, bytes := 8, zero := some (.nilfn) } := by kernel_rfl
theorem ty248 : tyA Tryz.prog 248 = some { kind := .int .u64, size := 1, bytes := 8, zero := some (.int .u64 0) } := by kernel_rfl
theorem ty249 : tyA Tryz.prog 249 = some { kind := .func, size := 1, bytes := 8, zero := some (.nilfn) } := by kernel_rfl
theorem ty250 : tyA Tryz.prog 250 = some { kind := .func, size := 1, bytes := 8, zero := some (.nilfn) } := by kernel_rfl
theorem ty251 : tyA Tryz.prog 251 = some { kind := .ptr, size := 1, bytes := 8, zero := some (.nilp) } := by kernel_rfl
theorem ty252 : tyA Tryz.prog 252 = some { kind := .func, size := 1, bytes := 8, zero := some (.nilfn) } := by kernel_rfl
theorem ty253 : tyA Tryz.prog 253 = some { kind := .func, size := 1, bytes := 8, zero := some (.nilfn) } := by kernel_rfl
theorem ty254 : tyA Tryz.prog 254 = some { kind := .func, size := 1, bytes := 8, zero := some (.nilfn) } := by kernel_rfl
theorem ty255 : tyA Tryz.prog 255 = some { kind := .func, size := 1, bytes := 8, zero := some (.nilfn) } := by kernel_rfl
theorem ty256 : tyA Tryz.prog 256 = some { kind := .func, size := 1, bytes := 8, zero := some (.nilfn) } := by kernel_rfl
theorem ty257 : tyA Tryz.prog 257 = some { kind := .slice 110, size := 1, bytes := 24, zero := some (.dl 0 [] .full) } := by kernel_rfl
theorem ty258 : tyA Tryz.prog 258 = some { kind := .func, size := 1, bytes := 8, zero := some (.nilfn) } := by kernel_rfl
theorem ty260 : tyA Tryz.prog 260 = some { kind := .func, size := 1, bytes := 8, zero := some (.nilfn) } := by kernel_rfl
theorem ty261 : tyA Tryz.prog 261 = some { kind := .func, size := 1, bytes := 8, zero := some (.nilfn) } := by kernel_rfl
theorem ty262 : tyA Tryz.prog 262 = some { kind := .func, size := 1, bytes := 8, zero := some (.nilfn) } := by kernel_rfl
theorem ty263 : tyA Tryz.prog 263 = some { kind := .func, size := 1, bytes := 8, zero := some (.nilfn) } := by kernel_rfl
theorem ty264 : tyA Tryz.prog 264 = some { kind := .func, size := 1, bytes := 8, zero := some (.nilfn) } := by kernel_rfl
theorem ty265 : tyA Tryz.prog 265 = some { kind := .slice 55, size := 1, bytes := 24, zero := some (.dl 0 [] .full) } := by kernel_rfl
theorem ty266 : tyA Tryz.prog 266 = some { kind := .func, size := 1, bytes := 8, zero := some (.nilfn) } := by kernel_rfl
theorem ty267 : tyA Tryz.prog 267 = some { kind := .ptr, size := 1, bytes := 8, zero := some (.nilp) } := by kernel_rfl
theorem ty268 : tyA Tryz.prog 268 = some { kind := .func, size := 1, bytes := 8, zero := some (.nilfn) } := by kernel_rfl
theorem ty269 : tyA Tryz.prog 269 = some { kind := .func, size := 1, bytes := 8, zero := some (.nilfn) } := by kernel_rfl
theorem ty270 : tyA Tryz.prog 270 = some { kind := .func, size := 1, bytes := 8, zero := some (.nilfn) } := by kernel_rfl
theorem ty271 : tyA Tryz.prog 271 = some { kind := .func, size := 1, bytes := 8, zero := some (.nilfn) } := by kernel_rfl
theorem ty272 : tyA Tryz.prog 272 = some { kind := .struct [(0, 17), (1, 17), (2, 17), (3, 9)], size := 4, bytes := 40, zero := some (.agg [.nilp, .nilp, .nilp, .str []]) } := by kernel_rfl
theorem ty273 : tyA Tryz.prog 273 = some { kind := .struct [(0, 17), (1, 17), (2, 17), (3, 9)], size := 4, bytes := 40, zero := some (.agg [.nilp, .nilp, .nilp, .str []]) } := by kernel_rfl
theorem ty274 : tyA Tryz.prog 274 = some { kind := .array 0 16, size := 0, bytes := 0, zero := some (.agg []) } := by kernel_rfl
theorem ty275 : tyA Tryz.prog 275 = some { kind := .struct [(0, 274)], size := 0, bytes := 0, zero := some (.agg []) } := by kernel_rfl
theorem ty276 : tyA Tryz.prog 276 = some { kind := .struct [(0, 274)], size := 0, bytes := 0, zero := some (.agg []) } := by kernel_rfl
theorem ty277 : tyA Tryz.prog 277 = some { kind := .int .u8, size := 1, bytes := 1, zero := some (.int .u8 0) } := by kernel_rfl
theorem ty278 : tyA Tryz.prog 278 = some { kind := .int .u8, size := 1, bytes := 1, zero := some (.int .u8 0) } := by kernel_rfl
theorem ty279 : tyA Tryz.prog 279 = some { kind := .func, size := 1, bytes := 8, zero := some (.nilfn) } := by kernel_rfl
theorem ty280 : tyA Tryz.prog 280 = some { kind := .ptr, size := 1, bytes := 8, zero := some (.nilp) } := by kernel_rfl
theorem ty281 : tyA Tryz.prog 281 = some { kind := .int .i32, size := 1, bytes := 4, zero := some (.int .i32 0) } := by kernel_rfl
theorem ty282 : tyA Tryz.prog 282 = some { kind := .int .i32, size := 1, bytes := 4, zero := some (.int .i32 0) } := by kernel_rfl
theorem ty283 : tyA Tryz.prog 283 = some { kind := .struct [(0, 12), (1, 12), (2, 180), (3, 277), (4, 5), (5, 5), (6, 278), (7, 279), (8, 280), (9, 281), (10, 282)], size := 11, bytes := 48, zero := some (.agg [.int .u64 0, .int .u64 0, .int .u32 0, .int .u8 0, .int .u8 0, .int .u8 0, .int .u8 0, .nilfn, .nilp, .int .i32 0, .int .i32 0]) } := by kernel_rfl
theorem ty284 : tyA Tryz.prog 284 = some { kind := .struct [(0, 12), (1, 12), (2, 180), (3, 277), (4, 5), (5, 5), (6, 278), (7, 279), (8, 280), (9, 281), (10, 282)], size := 11, bytes := 48, zero := some (.agg [.int .u64 0, .int .u64 0, .int .u32 0, .int .u8 0, .int .u8 0, .int .u8 0, .int .u8 0, .nilfn, .nilp, .int .i32 0, .int .i32 0]) } := by kernel_rfl
theorem ty285 : tyA Tryz.prog 285 = some { kind := .func, size := 1, bytes := 8, zero := some (.nilfn) } := by kernel_rfl
end Go.Av
end

section
namespace Go.Av
structure S0 where
 c0 : Int
 c1 : Int
 deriving Inhabited, DecidableEq
def encS0 (x : S0) : AV := .agg [.int .i64 x.c0, .int .i64 x.c1]
structure S1 where
 c0 : Int
 c1 : Int
 c2 : Int
 deriving Inhabited, DecidableEq
def encS1 (x : S1) : AV := .agg [.int .i64 x.c0, .int .i64 x.c1, .int .i64 x.c2]
def encL2 (x : List Bool) : AV := .dl 1 (x.map AV.bool) .none
structure S3 where
 c0 : Int
 c1 : Int
 c2 : (List Bool)
 deriving Inhabited, DecidableEq
def encS3 (x : S3) : AV := .agg [.int .i64 x.c0, .int .i64 x.c1, .dl 1 (x.c2.map AV.bool) .none]
def encL4 (x : List S1) : AV := .dl 3 (x.map encS1) .none
structure S5 where
 c0 : Int
 c1 : Int
 c2 : (List S1)
 deriving Inhabited, DecidableEq
def encS5 (x : S5) : AV := .agg [.int .i64 x.c0, .int .i64 x.c1, .dl 3 (x.c2.map encS1) .none]
def encL6 (x : List Int) : AV := .dl 1 (x.map (AV.int .u8)) .none
structure S7 where
 c0 : (List Int)
 deriving Inhabited, DecidableEq
def encS7 (x : S7) : AV := .agg [.dl 1 (x.c0.map (AV.int .u8)) .none]
structure S8 where
 c0 : (List Int)
 c1 : Int
 deriving Inhabited, DecidableEq
def encS8 (x : S8) : AV := .agg [.dl 1 (x.c0.map (AV.int .u8)) .none, .int .i64 x.c1]
structure S9 where
 c0 : Int
 c1 : Int
 c2 : Int
 c3 : Int
 deriving Inhabited, DecidableEq
def encS9 (x : S9) : AV := .agg [.int .i64 x.c0, .int .i64 x.c1, .int .i64 x.c2, .int .i64 x.c3]
def encL10 (x : List Int) : AV := .dl 1 (x.map (AV.int .i64)) .none
def encL11 (x : List S0) : AV := .dl 2 (x.map encS0) .none
def encL12 (x : List Int) : AV := .dl 1 (x.map (AV.int .u32)) .none
structure S13 where
 c0 : Bool
 c1 : (List Int)
 deriving Inhabited, DecidableEq
def encS13 (x : S13) : AV := .agg [.bool x.c0, .dl 1 (x.c1.map (AV.int .u32)) .none]
structure S14 where
 c0 : Bool
 c1 : (List Int)
 c2 : Bool
 c3 : (List Int)
 deriving Inhabited, DecidableEq
def encS14 (x : S14) : AV := .agg [.bool x.c0, .dl 1 (x.c1.map (AV.int .u32)) .none, .bool x.c2, .dl 1 (x.c3.map (AV.int .u32)) .none]
def encL15 (x : List (List S0)) : AV := .dl 1 (x.map encL11) .none
structure S16 where
 c0 : (List (List S0))
 deriving Inhabited, DecidableEq
def encS16 (x : S16) : AV := .agg [.dl 1 (x.c0.map encL11) .none]
end Go.Av
end
