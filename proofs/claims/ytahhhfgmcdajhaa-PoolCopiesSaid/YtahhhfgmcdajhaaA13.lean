/- the layer over the model, part 13 -/
import Derived.Test.YtahhhfgmcdajhaaProg
import Derived.KernelRfl
import Derived.Test.YtahhhfgmcdajhaaA12
set_option autoImplicit false
set_option linter.unusedSimpArgs false
set_option linter.unusedVariables false
set_option linter.unnecessarySimpa false
section
namespace Go.Av
open Go.Proofs
theorem ty1 : tyA Try.prog 1 = some { kind := .func, size := 1, bytes := 8, zero := some (.nilfn) } := by kernel_rfl
theorem ty2 : tyA Try.prog 2 = some { kind := .int .i64, size := 1, bytes := 8, zero := some (.int .i64 0) } := by kernel_rfl
theorem ty3 : tyA Try.prog 3 = some { kind := .int .i64, size := 1, bytes := 8, zero := some (.int .i64 0) } := by kernel_rfl
theorem ty4 : tyA Try.prog 4 = some { kind := .bool, size := 1, bytes := 1, zero := some (.bool false) } := by kernel_rfl
theorem ty5 : tyA Try.prog 5 = some { kind := .int .u8, size := 1, bytes := 1, zero := some (.int .u8 0) } := by kernel_rfl
theorem ty6 : tyA Try.prog 6 = some { kind := .int .u8, size := 1, bytes := 1, zero := some (.int .u8 0) } := by kernel_rfl
theorem ty7 : tyA Try.prog 7 = some { kind := .struct [(0, 2), (1, 3), (2, 4), (3, 6)], size := 4, bytes := 24, zero := some (.agg [.int .i64 0, .int .i64 0, .bool false, .int .u8 0]) } := by kernel_rfl
theorem ty8 : tyA Try.prog 8 = some { kind := .struct [(0, 2), (1, 3), (2, 4), (3, 6)], size := 4, bytes := 24, zero := some (.agg [.int .i64 0, .int .i64 0, .bool false, .int .u8 0]) } := by kernel_rfl
theorem ty9 : tyA Try.prog 9 = some { kind := .str, size := 1, bytes := 16, zero := some (.str []) } := by kernel_rfl
theorem ty10 : tyA Try.prog 10 = some { kind := .str, size := 1, bytes := 16, zero := some (.str []) } := by kernel_rfl
theorem ty11 : tyA Try.prog 11 = some { kind := .str, size := 1, bytes := 16, zero := some (.str []) } := by kernel_rfl
theorem ty12 : tyA Try.prog 12 = some { kind := .int .u64, size := 1, bytes := 8, zero := some (.int .u64 0) } := by kernel_rfl
theorem ty13 : tyA Try.prog 13 = some { kind := .struct [(0, 9), (1, 12)], size := 2, bytes := 24, zero := some (.agg [.str [], .int .u64 0]) } := by kernel_rfl
theorem ty14 : tyA Try.prog 14 = some { kind := .struct [(0, 9), (1, 12)], size := 2, bytes := 24, zero := some (.agg [.str [], .int .u64 0]) } := by kernel_rfl
theorem ty15 : tyA Try.prog 15 = some { kind := .ptr, size := 1, bytes := 8, zero := some (.nilp) } := by kernel_rfl
theorem ty16 : tyA Try.prog 16 = some { kind := .ptr, size := 1, bytes := 8, zero := some (.nilp) } := by kernel_rfl
theorem ty17 : tyA Try.prog 17 = some { kind := .ptr, size := 1, bytes := 8, zero := some (.nilp) } := by kernel_rfl
theorem ty18 : tyA Try.prog 18 = some { kind := .struct [(0, 17)], size := 1, bytes := 8, zero := some (.agg [.nilp]) } := by kernel_rfl
theorem ty19 : tyA Try.prog 19 = some { kind := .struct [(0, 17)], size := 1, bytes := 8, zero := some (.agg [.nilp]) } := by kernel_rfl
theorem ty20 : tyA Try.prog 20 = some { kind := .iface, size := 1, bytes := 16, zero := some (.nilif) } := by kernel_rfl
theorem ty21 : tyA Try.prog 21 = some { kind := .int .i32, size := 1, bytes := 4, zero := some (.int .i32 0) } := by kernel_rfl
theorem ty22 : tyA Try.prog 22 = some { kind := .ptr, size := 1, bytes := 8, zero := some (.nilp) } := by kernel_rfl
theorem ty23 : tyA Try.prog 23 = some { kind := .int .i64, size := 1, bytes := 8, zero := some (.int .i64 0) } := by kernel_rfl
theorem ty25 : tyA Try.prog 25 = some { kind := .func, size := 1, bytes := 8, zero := some (.nilfn) } := by kernel_rfl
theorem ty26 : tyA Try.prog 26 = some { kind := .func, size := 1, bytes := 8, zero := some (.nilfn) } := by kernel_rfl
theorem ty27 : tyA Try.prog 27 = some { kind := .func, size := 1, bytes := 8, zero := some (.nilfn) } := by kernel_rfl
theorem ty28 : tyA Try.prog 28 = some { kind := .slice 5, size := 1, bytes := 24, zero := some (.dl 0 [] .full) } := by kernel_rfl
theorem ty29 : tyA Try.prog 29 = some { kind := .struct [(0, 3), (1, 28)], size := 2, bytes := 32, zero := some (.agg [.int .i64 0, .dl 0 [] .full]) } := by kernel_rfl
theorem ty30 : tyA Try.prog 30 = some { kind := .struct [(0, 3), (1, 28)], size := 2, bytes := 32, zero := some (.agg [.int .i64 0, .dl 0 [] .full]) } := by kernel_rfl
theorem ty31 : tyA Try.prog 31 = some { kind := .slice 3, size := 1, bytes := 24, zero := some (.dl 0 [] .full) } := by kernel_rfl
theorem ty32 : tyA Try.prog 32 = some { kind := .func, size := 1, bytes := 8, zero := some (.nilfn) } := by kernel_rfl
theorem ty34 : tyA Try.prog 34 = some { kind := .func, size := 1, bytes := 8, zero := some (.nilfn) } := by kernel_rfl
theorem ty36 : tyA Try.prog 36 = some { kind := .func, size := 1, bytes := 8, zero := some (.nilfn) } := by kernel_rfl
theorem ty37 : tyA Try.prog 37 = some { kind := .struct [(0, 3), (1, 3), (2, 3), (3, 28)], size := 4, bytes := 48, zero := some (.agg [.int .i64 0, .int .i64 0, .int .i64 0, .dl 0 [] .full]) } := by kernel_rfl
theorem ty38 : tyA Try.prog 38 = some { kind := .struct [(0, 3), (1, 3), (2, 3), (3, 28)], size := 4, bytes := 48, zero := some (.agg [.int .i64 0, .int .i64 0, .int .i64 0, .dl 0 [] .full]) } := by kernel_rfl
theorem ty39 : tyA Try.prog 39 = some { kind := .func, size := 1, bytes := 8, zero := some (.nilfn) } := by kernel_rfl
theorem ty40 : tyA Try.prog 40 = some { kind := .func, size := 1, bytes := 8, zero := some (.nilfn) } := by kernel_rfl
theorem ty41 : tyA Try.prog 41 = some { kind := .ptr, size := 1, bytes := 8, zero := some (.nilp) } := by kernel_rfl
theorem ty42 : tyA Try.prog 42 = some { kind := .func, size := 1, bytes := 8, zero := some (.nilfn) } := by kernel_rfl
theorem ty43 : tyA Try.prog 43 = some { kind := .slice 47, size := 1, bytes := 24, zero := some (.dl 0 [] .full) } := by kernel_rfl
theorem ty44 : tyA Try.prog 44 = some { kind := .func, size := 1, bytes := 8, zero := some (.nilfn) } := by kernel_rfl
theorem ty45 : tyA Try.prog 45 = some { kind := .func, size := 1, bytes := 8, zero := some (.nilfn) } := by kernel_rfl
theorem ty46 : tyA Try.prog 46 = some { kind := .struct [(0, 3), (1, 3), (2, 3), (3, 28), (4, 3)], size := 5, bytes := 56, zero := some (.agg [.int .i64 0, .int .i64 0, .int .i64 0, .dl 0 [] .full, .int .i64 0]) } := by kernel_rfl
theorem ty47 : tyA Try.prog 47 = some { kind := .struct [(0, 3), (1, 3), (2, 3), (3, 28), (4, 3)], size := 5, bytes := 56, zero := some (.agg [.int .i64 0, .int .i64 0, .int .i64 0, .dl 0 [] .full, .int .i64 0]) } := by kernel_rfl
theorem ty48 : tyA Try.prog 48 = some { kind := .func, size := 1, bytes := 8, zero := some (.nilfn) } := by kernel_rfl
theorem ty49 : tyA Try.prog 49 = some { kind := .func, size := 1, bytes := 8, zero := some (.nilfn) } := by kernel_rfl
theorem ty50 : tyA Try.prog 50 = some { kind := .func, size := 1, bytes := 8, zero := some (.nilfn) } := by kernel_rfl
theorem ty52 : tyA Try.prog 52 = some { kind := .func, size := 1, bytes := 8, zero := some (.nilfn) } := by kernel_rfl
theorem ty53 : tyA Try.prog 53 = some { kind := .func, size := 1, bytes := 8, zero := some (.nilfn) } := by kernel_rfl
theorem ty54 : tyA Try.prog 54 = some { kind := .func, size := 1, bytes := 8, zero := some (.nilfn) } := by kernel_rfl
theorem ty55 : tyA Try.prog 55 = some { kind := .func, size := 1, bytes := 8, zero := some (.nilfn) } := by kernel_rfl
theorem ty56 : tyA Try.prog 56 = some { kind := .func, size := 1, bytes := 8, zero := some (.nilfn) } := by kernel_rfl
theorem ty57 : tyA Try.prog 57 = some { kind := .slice 58, size := 1, bytes := 24, zero := some (.dl 0 [] .full) } := by kernel_rfl
theorem ty58 : tyA Try.prog 58 = some { kind := .array 4 3, size := 4, bytes := 32, zero := some (.agg [.int .i64 0, .int .i64 0, .int .i64 0, .int .i64 0]) } := by kernel_rfl
theorem ty59 : tyA Try.prog 59 = some { kind := .slice 38, size := 1, bytes := 24, zero := some (.dl 0 [] .full) } := by kernel_rfl
theorem ty60 : tyA Try.prog 60 = some { kind := .func, size := 1, bytes := 8, zero := some (.nilfn) } := by kernel_rfl
theorem ty61 : tyA Try.prog 61 = some { kind := .func, size := 1, bytes := 8, zero := some (.nilfn) } := by kernel_rfl
theorem ty62 : tyA Try.prog 62 = some { kind := .func, size := 1, bytes := 8, zero := some (.nilfn) } := by kernel_rfl
theorem ty63 : tyA Try.prog 63 = some { kind := .func, size := 1, bytes := 8, zero := some (.nilfn) } := by kernel_rfl
theorem ty64 : tyA Try.prog 64 = some { kind := .func, size := 1, bytes := 8, zero := some (.nilfn) } := by kernel_rfl
theorem ty65 : tyA Try.prog 65 = some { kind := .struct [(0, 28)], size := 1, bytes := 24, zero := some (.agg [.dl 0 [] .full]) } := by kernel_rfl
theorem ty66 : tyA Try.prog 66 = some { kind := .struct [(0, 28)], size := 1, bytes := 24, zero := some (.agg [.dl 0 [] .full]) } := by kernel_rfl
theorem ty67 : tyA Try.prog 67 = some { kind := .func, size := 1, bytes := 8, zero := some (.nilfn) } := by kernel_rfl
theorem ty68 : tyA Try.prog 68 = some { kind := .func, size := 1, bytes := 8, zero := some (.nilfn) } := by kernel_rfl
theorem ty69 : tyA Try.prog 69 = some { kind := .func, size := 1, bytes := 8, zero := some (.nilfn) } := by kernel_rfl
theorem ty70 : tyA Try.prog 70 = some { kind := .func, size := 1, bytes := 8, zero := some (.nilfn) } := by kernel_rfl
theorem ty71 : tyA Try.prog 71 = some { kind := .func, size := 1, bytes := 8, zero := some (.nilfn) } := by kernel_rfl
theorem ty72 : tyA Try.prog 72 = some { kind := .ptr, size := 1, bytes := 8, zero := some (.nilp) } := by kernel_rfl
theorem ty74 : tyA Try.prog 74 = some { kind := .func, size := 1, bytes := 8, zero := some (.nilfn) } := by kernel_rfl
theorem ty75 : tyA Try.prog 75 = some { kind := .ptr, size := 1, bytes := 8, zero := some (.nilp) } := by kernel_rfl
theorem ty76 : tyA Try.prog 76 = some { kind := .slice 28, size := 1, bytes := 24, zero := some (.dl 0 [] .full) } := by kernel_rfl
theorem ty78 : tyA Try.prog 78 = some { kind := .func, size := 1, bytes := 8, zero := some (.nilfn) } := by kernel_rfl
theorem ty79 : tyA Try.prog 79 = some { kind := .func, size := 1, bytes := 8, zero := some (.nilfn) } := by kernel_rfl
theorem ty80 : tyA Try.prog 80 = some { kind := .func, size := 1, bytes := 8, zero := some (.nilfn) } := by kernel_rfl
theorem ty81 : tyA Try.prog 81 = some { kind := .func, size := 1, bytes := 8, zero := some (.nilfn) } := by kernel_rfl
theorem ty82 : tyA Try.prog 82 = some { kind := .ptr, size := 1, bytes := 8, zero := some (.nilp) } := by kernel_rfl
theorem ty83 : tyA Try.prog 83 = some { kind := .func, size := 1, bytes := 8, zero := some (.nilfn) } := by kernel_rfl
theorem ty84 : tyA Try.prog 84 = some { kind := .func, size := 1, bytes := 8, zero := some (.nilfn) } := by kernel_rfl
theorem ty85 : tyA Try.prog 85 = some { kind := .func, size := 1, bytes := 8, zero := some (.nilfn) } := by kernel_rfl
theorem ty86 : tyA Try.prog 86 = some { kind := .slice 4, size := 1, bytes := 24, zero := some (.dl 0 [] .full) } := by kernel_rfl
theorem ty87 : tyA Try.prog 87 = some { kind := .func, size := 1, bytes := 8, zero := some (.nilfn) } := by kernel_rfl
theorem ty88 : tyA Try.prog 88 = some { kind := .map 3 91, size := 1, bytes := 8, zero := some (.map none) } := by kernel_rfl
theorem ty89 : tyA Try.prog 89 = some { kind := .struct [(0, 86), (1, 3), (2, 3), (3, 88)], size := 4, bytes := 48, zero := some (.agg [.dl 0 [] .full, .int .i64 0, .int .i64 0, .map none]) } := by kernel_rfl
theorem ty90 : tyA Try.prog 90 = some { kind := .struct [(0, 86), (1, 3), (2, 3), (3, 88)], size := 4, bytes := 48, zero := some (.agg [.dl 0 [] .full, .int .i64 0, .int .i64 0, .map none]) } := by kernel_rfl
theorem ty91 : tyA Try.prog 91 = some { kind := .ptr, size := 1, bytes := 8, zero := some (.nilp) } := by kernel_rfl
theorem ty92 : tyA Try.prog 92 = some { kind := .slice 101, size := 1, bytes := 24, zero := some (.dl 0 [] .full) } := by kernel_rfl
theorem ty93 : tyA Try.prog 93 = some { kind := .ptr, size := 1, bytes := 8, zero := some (.nilp) } := by kernel_rfl
theorem ty94 : tyA Try.prog 94 = some { kind := .struct [(0, 30), (2, 92), (3, 93)], size := 4, bytes := 64, zero := some (.agg [.int .i64 0, .dl 0 [] .full, .dl 0 [] .full, .nilp]) } := by kernel_rfl
theorem ty95 : tyA Try.prog 95 = some { kind := .struct [(0, 30), (2, 92), (3, 93)], size := 4, bytes := 64, zero := some (.agg [.int .i64 0, .dl 0 [] .full, .dl 0 [] .full, .nilp]) } := by kernel_rfl
theorem ty96 : tyA Try.prog 96 = some { kind := .func, size := 1, bytes := 8, zero := some (.nilfn) } := by kernel_rfl
theorem ty97 : tyA Try.prog 97 = some { kind := .func, size := 1, bytes := 8, zero := some (.nilfn) } := by kernel_rfl
theorem ty98 : tyA Try.prog 98 = some { kind := .func, size := 1, bytes := 8, zero := some (.nilfn) } := by kernel_rfl
theorem ty99 : tyA Try.prog 99 = some { kind := .func, size := 1, bytes := 8, zero := some (.nilfn) } := by kernel_rfl
theorem ty100 : tyA Try.prog 100 = some { kind := .struct [(0, 3), (1, 3), (2, 4)], size := 3, bytes := 24, zero := some (.agg [.int .i64 0, .int .i64 0, .bool false]) } := by kernel_rfl
theorem ty101 : tyA Try.prog 101 = some { kind := .struct [(0, 3), (1, 3), (2, 4)], size := 3, bytes := 24, zero := some (.agg [.int .i64 0, .int .i64 0, .bool false]) } := by kernel_rfl
theorem ty102 : tyA Try.prog 102 = some { kind := .func, size := 1, bytes := 8, zero := some (.nilfn) } := by kernel_rfl
theorem ty103 : tyA Try.prog 103 = some { kind := .slice 109, size := 1, bytes := 24, zero := some (.dl 0 [] .full) } := by kernel_rfl
theorem ty104 : tyA Try.prog 104 = some { kind := .slice 111, size := 1, bytes := 24, zero := some (.dl 0 [] .full) } := by kernel_rfl
theorem ty105 : tyA Try.prog 105 = some { kind := .struct [(0, 86), (1, 3), (2, 3), (3, 103), (4, 104)], size := 5, bytes := 88, zero := some (.agg [.dl 0 [] .full, .int .i64 0, .int .i64 0, .dl 0 [] .full, .dl 0 [] .full]) } := by kernel_rfl
theorem ty106 : tyA Try.prog 106 = some { kind := .struct [(0, 86), (1, 3), (2, 3), (3, 103), (4, 104)], size := 5, bytes := 88, zero := some (.agg [.dl 0 [] .full, .int .i64 0, .int .i64 0, .dl 0 [] .full, .dl 0 [] .full]) } := by kernel_rfl
theorem ty107 : tyA Try.prog 107 = some { kind := .func, size := 1, bytes := 8, zero := some (.nilfn) } := by kernel_rfl
theorem ty108 : tyA Try.prog 108 = some { kind := .struct [(0, 3), (1, 28), (2, 3), (3, 4), (4, 3), (5, 3), (6, 28)], size := 7, bytes := 88, zero := some (.agg [.int .i64 0, .dl 0 [] .full, .int .i64 0, .bool false, .int .i64 0, .int .i64 0, .dl 0 [] .full]) } := by kernel_rfl
theorem ty109 : tyA Try.prog 109 = some { kind := .struct [(0, 3), (1, 28), (2, 3), (3, 4), (4, 3), (5, 3), (6, 28)], size := 7, bytes := 88, zero := some (.agg [.int .i64 0, .dl 0 [] .full, .int .i64 0, .bool false, .int .i64 0, .int .i64 0, .dl 0 [] .full]) } := by kernel_rfl
theorem ty110 : tyA Try.prog 110 = some { kind := .struct [(0, 3), (1, 3), (2, 3), (3, 3), (4, 4)], size := 5, bytes := 40, zero := some (.agg [.int .i64 0, .int .i64 0, .int .i64 0, .int .i64 0, .bool false]) } := by kernel_rfl
theorem ty111 : tyA Try.prog 111 = some { kind := .struct [(0, 3), (1, 3), (2, 3), (3, 3), (4, 4)], size := 5, bytes := 40, zero := some (.agg [.int .i64 0, .int .i64 0, .int .i64 0, .int .i64 0, .bool false]) } := by kernel_rfl
theorem ty112 : tyA Try.prog 112 = some { kind := .func, size := 1, bytes := 8, zero := some (.nilfn) } := by kernel_rfl
theorem ty113 : tyA Try.prog 113 = some { kind := .func, size := 1, bytes := 8, zero := some (.nilfn) } := by kernel_rfl
theorem ty114 : tyA Try.prog 114 = some { kind := .func, size := 1, bytes := 8, zero := some (.nilfn) } := by kernel_rfl
theorem ty115 : tyA Try.prog 115 = some { kind := .func, size := 1, bytes := 8, zero := some (.nilfn) } := by kernel_rfl
theorem ty116 : tyA Try.prog 116 = some { kind := .ptr, size := 1, bytes := 8, zero := some (.nilp) } := by kernel_rfl
theorem ty117 : tyA Try.prog 117 = some { kind := .func, size := 1, bytes := 8, zero := some (.nilfn) } := by kernel_rfl
theorem ty118 : tyA Try.prog 118 = some { kind := .int .u64, size := 1, bytes := 8, zero := some (.int .u64 0) } := by kernel_rfl
theorem ty119 : tyA Try.prog 119 = some { kind := .func, size := 1, bytes := 8, zero := some (.nilfn) } := by kernel_rfl
theorem ty120 : tyA Try.prog 120 = some { kind := .func, size := 1, bytes := 8, zero := some (.nilfn) } := by kernel_rfl
theorem ty121 : tyA Try.prog 121 = some { kind := .map 3 134, size := 1, bytes := 8, zero := some (.map none) } := by kernel_rfl
theorem ty122 : tyA Try.prog 122 = some { kind := .struct [(0, 121), (1, 3), (2, 4), (3, 4), (4, 3)], size := 5, bytes := 32, zero := some (.agg [.map none, .int .i64 0, .bool false, .bool false, .int .i64 0]) } := by kernel_rfl
theorem ty123 : tyA Try.prog 123 = some { kind := .struct [(0, 121), (1, 3), (2, 4), (3, 4), (4, 3)], size := 5, bytes := 32, zero := some (.agg [.map none, .int .i64 0, .bool false, .bool false, .int .i64 0]) } := by kernel_rfl
theorem ty125 : tyA Try.prog 125 = some { kind := .func, size := 1, bytes := 8, zero := some (.nilfn) } := by kernel_rfl
theorem ty127 : tyA Try.prog 127 = some { kind := .func, size := 1, bytes := 8, zero := some (.nilfn) } := by kernel_rfl
theorem ty128 : tyA Try.prog 128 = some { kind := .struct [(0, 72), (1, 3), (2, 3), (3, 4)], size := 4, bytes := 32, zero := some (.agg [.nilp, .int .i64 0, .int .i64 0, .bool false]) } := by kernel_rfl
theorem ty129 : tyA Try.prog 129 = some { kind := .struct [(0, 72), (1, 3), (2, 3), (3, 4)], size := 4, bytes := 32, zero := some (.agg [.nilp, .int .i64 0, .int .i64 0, .bool false]) } := by kernel_rfl
theorem ty130 : tyA Try.prog 130 = some { kind := .func, size := 1, bytes := 8, zero := some (.nilfn) } := by kernel_rfl
theorem ty131 : tyA Try.prog 131 = some { kind := .func, size := 1, bytes := 8, zero := some (.nilfn) } := by kernel_rfl
theorem ty132 : tyA Try.prog 132 = some { kind := .slice 135, size := 1, bytes := 24, zero := some (.dl 0 [] .full) } := by kernel_rfl
theorem ty133 : tyA Try.prog 133 = some { kind := .struct [(0, 28), (1, 3)], size := 2, bytes := 32, zero := some (.agg [.dl 0 [] .full, .int .i64 0]) } := by kernel_rfl
theorem ty134 : tyA Try.prog 134 = some { kind := .struct [(0, 28), (1, 3)], size := 2, bytes := 32, zero := some (.agg [.dl 0 [] .full, .int .i64 0]) } := by kernel_rfl
theorem ty135 : tyA Try.prog 135 = some { kind := .ptr, size := 1, bytes := 8, zero := some (.nilp) } := by kernel_rfl
theorem ty136 : tyA Try.prog 136 = some { kind := .func, size := 1, bytes := 8, zero := some (.nilfn) } := by kernel_rfl
theorem ty137 : tyA Try.prog 137 = some { kind := .struct [(0, 28), (1, 23)], size := 2, bytes := 32, zero := some (.agg [.dl 0 [] .full, .int .i64 0]) } := by kernel_rfl
theorem ty138 : tyA Try.prog 138 = some { kind := .struct [(0, 28), (1, 23)], size := 2, bytes := 32, zero := some (.agg [.dl 0 [] .full, .int .i64 0]) } := by kernel_rfl
theorem ty139 : tyA Try.prog 139 = some { kind := .func, size := 1, bytes := 8, zero := some (.nilfn) } := by kernel_rfl
theorem ty140 : tyA Try.prog 140 = some { kind := .func, size := 1, bytes := 8, zero := some (.nilfn) } := by kernel_rfl
theorem ty141 : tyA Try.prog 141 = some { kind := .func, size := 1, bytes := 8, zero := some (.nilfn) } := by kernel_rfl
theorem ty142 : tyA Try.prog 142 = some { kind := .func, size := 1, bytes := 8, zero := some (.nilfn) } := by kernel_rfl
theorem ty143 : tyA Try.prog 143 = some { kind := .int .u64, size := 1, bytes := 8, zero := some (.int .u64 0) } := by kernel_rfl
theorem ty145 : tyA Try.prog 145 = some { kind := .func, size := 1, bytes := 8, zero := some (.nilfn) } := by kernel_rfl
theorem ty146 : tyA Try.prog 146 = some { kind := .func, size := 1, bytes := 8, zero := some (.nilfn) } := by kernel_rfl
theorem ty147 : tyA Try.prog 147 = some { kind := .func, size := 1, bytes := 8, zero := some (.nilfn) } := by kernel_rfl
theorem ty148 : tyA Try.prog 148 = some { kind := .func, size := 1, bytes := 8, zero := some (.nilfn) } := by kernel_rfl
theorem ty149 : tyA Try.prog 149 = some { kind := .func, size := 1, bytes := 8, zero := some (.nilfn) } := by kernel_rfl
theorem ty150 : tyA Try.prog 150 = some { kind := .func, size := 1, bytes := 8, zero := some (.nilfn) } := by kernel_rfl
theorem ty151 : tyA Try.prog 151 = some { kind := .func, size := 1, bytes := 8, zero := some (.nilfn) } := by kernel_rfl
theorem ty152 : tyA Try.prog 152 = some { kind := .func, size := 1, bytes := 8, zero := some (.nilfn) } := by kernel_rfl
theorem ty153 : tyA Try.prog 153 = some { kind := .func, size := 1, bytes := 8, zero := some (.nilfn) } := by kernel_rfl
theorem ty154 : tyA Try.prog 154 = some { kind := .func, size := 1, bytes := 8, zero := some (.nilfn) } := by kernel_rfl
theorem ty155 : tyA Try.prog 155 = some { kind := .func, size := 1, bytes := 8, zero := some (.nilfn) } := by kernel_rfl
theorem ty156 : tyA Try.prog 156 = some { kind := .func, size := 1, bytes := 8, zero := some (.nilfn) } := by kernel_rfl
theorem ty157 : tyA Try.prog 157 = some { kind := .func, size := 1, bytes := 8, zero := some (.nilfn) } := by kernel_rfl
theorem ty158 : tyA Try.prog 158 = some { kind := .func, size := 1, bytes := 8, zero := some (.nilfn) } := by kernel_rfl
theorem ty159 : tyA Try.prog 159 = some { kind := .func, size := 1, bytes := 8, zero := some (.nilfn) } := by kernel_rfl
theorem ty160 : tyA Try.prog 160 = some { kind := .func, size := 1, bytes := 8, zero := some (.nilfn) } := by kernel_rfl
theorem ty161 : tyA Try.prog 161 = some { kind := .int .u32, size := 1, bytes := 4, zero := some (.int .u32 0) } := by kernel_rfl
theorem ty163 : tyA Try.prog 163 = some { kind := .func, size := 1, bytes := 8, zero := some (.nilfn) } := by kernel_rfl
theorem ty165 : tyA Try.prog 165 = some { kind := .func, size := 1, bytes := 8, zero := some (.nilfn) } := by kernel_rfl
theorem ty166 : tyA Try.prog 166 = some { kind := .func, size := 1, bytes := 8, zero := some (.nilfn) } := by kernel_rfl
theorem ty167 : tyA Try.prog 167 = some { kind := .func, size := 1, bytes := 8, zero := some (.nilfn) } := by kernel_rfl
theorem ty168 : tyA Try.prog 168 = some { kind := .func, size := 1, bytes := 8, zero := some (.nilfn) } := by kernel_rfl
theorem ty169 : tyA Try.prog 169 = some { kind := .func, size := 1, bytes := 8, zero := some (.nilfn) } := by kernel_rfl
theorem ty170 : tyA Try.prog 170 = some { kind := .func, size := 1, bytes := 8, zero := some (.nilfn) } := by kernel_rfl
theorem ty171 : tyA Try.prog 171 = some { kind := .func, size := 1, bytes := 8, zero := some (.nilfn) } := by kernel_rfl
theorem ty172 : tyA Try.prog 172 = some { kind := .func, size := 1, bytes := 8, zero := some (.nilfn) } := by kernel_rfl
theorem ty173 : tyA Try.prog 173 = some { kind := .func, size := 1, bytes := 8, zero := some (.nilfn) } := by kernel_rfl
theorem ty174 : tyA Try.prog 174 = some { kind := .func, size := 1, bytes := 8, zero := some (.nilfn) } := by kernel_rfl
theorem ty175 : tyA Try.prog 175 = some { kind := .func, size := 1, bytes := 8, zero := some (.nilfn) } := by kernel_rfl
theorem ty176 : tyA Try.prog 176 = some { kind := .int .i64, size := 1, bytes := 8, zero := some (.int .i64 0) } := by kernel_rfl
theorem ty178 : tyA Try.prog 178 = some { kind := .func, size := 1, bytes := 8, zero := some (.nilfn) } := by kernel_rfl
theorem ty179 : tyA Try.prog 179 = some { kind := .func, size := 1, bytes := 8, zero := some (.nilfn) } := by kernel_rfl
theorem ty181 : tyA Try.prog 181 = some { kind := .func, size := 1, bytes := 8, zero := some (.nilfn) } := by kernel_rfl
theorem ty182 : tyA Try.prog 182 = some { kind := .func, size := 1, bytes := 8, zero := some (.nilfn) } := by kernel_rfl
theorem ty183 : tyA Try.prog 183 = some { kind := .int .u64, size := 1, bytes := 8, zero := some (.int .u64 0) } := by kernel_rfl
theorem ty184 : tyA Try.prog 184 = some { kind := .func, size := 1, bytes := 8, zero := some (.nilfn) } := by kernel_rfl
theorem ty185 : tyA Try.prog 185 = some { kind := .func, size := 1, bytes := 8, zero := some (.nilfn) } := by kernel_rfl
theorem ty186 : tyA Try.prog 186 = some { kind := .ptr, size := 1, bytes := 8, zero := some (.nilp) } := by kernel_rfl
theorem ty187 : tyA Try.prog 187 = some { kind := .func, size := 1, bytes := 8, zero := some (.nilfn) } := by kernel_rfl
theorem ty188 : tyA Try.prog 188 = some { kind := .ptr, size := 1, bytes := 8, zero := some (.nilp) } := by kernel_rfl
theorem ty190 : tyA Try.prog 190 = some { kind := .func, size := 1, bytes := 8, zero := some (.nilfn) } := by kernel_rfl
theorem ty191 : tyA Try.prog 191 = some { kind := .func, size := 1, bytes := 8, zero := some (.nilfn) } := by kernel_rfl
theorem ty192 : tyA Try.prog 192 = some { kind := .struct [(0, 17), (1, 17), (2, 17), (3, 9)], size := 4, bytes := 40, zero := some (.agg [.nilp, .nilp, .nilp, .str []]) } := by kernel_rfl
theorem ty193 : tyA Try.prog 193 = some { kind := .struct [(0, 17), (1, 17), (2, 17), (3, 9)], size := 4, bytes := 40, zero := some (.agg [.nilp, .nilp, .nilp, .str []]) } := by kernel_rfl
theorem ty194 : tyA Try.prog 194 = some { kind := .array 0 16, size := 0, bytes := 0, zero := some (.agg []) } := by kernel_rfl
theorem ty195 : tyA Try.prog 195 = some { kind := .struct [(0, 194)], size := 0, bytes := 0, zero := some (.agg []) } := by kernel_rfl
theorem ty196 : tyA Try.prog 196 = some { kind := .struct [(0, 194)], size := 0, bytes := 0, zero := some (.agg []) } := by kernel_rfl
theorem ty197 : tyA Try.prog 197 = some { kind := .int .u8, size := 1, bytes := 1, zero := some (.int .u8 0) } := by kernel_rfl
theorem ty198 : tyA Try.prog 198 = some { kind := .int .u8, size := 1, bytes := 1, zero := some (.int .u8 0) } := by kernel_rfl
theorem ty199 : tyA Try.prog 199 = some { kind := .func, size := 1, bytes := 8, zero := some (.nilfn) } := by kernel_rfl
theorem ty200 : tyA Try.prog 200 = some { kind := .int .i32, size := 1, bytes := 4, zero := some (.int .i32 0) } := by kernel_rfl
theorem ty201 : tyA Try.prog 201 = some { kind := .int .i32, size := 1, bytes := 4, zero := some (.int .i32 0) } := by kernel_rfl
theorem ty202 : tyA Try.prog 202 = some { kind := .struct [(0, 12), (1, 12), (2, 161), (3, 197), (4, 5), (5, 5), (6, 198), (7, 199), (8, 135), (9, 200), (10, 201)], size := 11, bytes := 48, zero := some (.agg [.int .u64 0, .int .u64 0, .int .u32 0, .int .u8 0, .int .u8 0, .int .u8 0, .int .u8 0, .nilfn, .nilp, .int .i32 0, .int .i32 0]) } := by kernel_rfl
theorem ty203 : tyA Try.prog 203 = some { kind := .struct [(0, 12), (1, 12), (2, 161), (3, 197), (4, 5), (5, 5), (6, 198), (7, 199), (8, 135), (9, 200), (10, 201)], size := 11, bytes := 48, zero := some (.agg [.int .u64 0, .int .u64 0, .int .u32 0, .int .u8 0, .int .u8 0, .int .u8 0, .int .u8 0, .nilfn, .nilp, .int .i32 0, .int .i32 0]) } := by kernel_rfl
theorem ty204 : tyA Try.prog 204 = some { kind := .func, size := 1, bytes := 8, zero := some (.nilfn) } := by kernel_rfl
end Go.Av
end

section
namespace Go.Av
def encL0 (x : List Int) : AV := .dl 1 (x.map (AV.int .u8)) .none
structure S1 where
 c0 : Int
 c1 : (List Int)
 deriving Inhabited, DecidableEq
def encS1 (x : S1) : AV := .agg [.int .i64 x.c0, .dl 1 (x.c1.map (AV.int .u8)) .none]
structure S2 where
 c0 : Int
 c1 : Int
 c2 : Int
 c3 : (List Int)
 deriving Inhabited, DecidableEq
def encS2 (x : S2) : AV := .agg [.int .i64 x.c0, .int .i64 x.c1, .int .i64 x.c2, .dl 1 (x.c3.map (AV.int .u8)) .none]
structure S3 where
 c0 : Int
 c1 : Int
 c2 : Bool
 deriving Inhabited, DecidableEq
def encS3 (x : S3) : AV := .agg [.int .i64 x.c0, .int .i64 x.c1, .bool x.c2]
def encL4 (x : List Bool) : AV := .dl 1 (x.map AV.bool) .none
structure S5 where
 c0 : Int
 c1 : (List Int)
 c2 : Int
 c3 : Bool
 c4 : Int
 c5 : Int
 c6 : (List Int)
 deriving Inhabited, DecidableEq
def encS5 (x : S5) : AV := .agg [.int .i64 x.c0, .dl 1 (x.c1.map (AV.int .u8)) .none, .int .i64 x.c2, .bool x.c3, .int .i64 x.c4, .int .i64 x.c5, .dl 1 (x.c6.map (AV.int .u8)) .none]
def encL6 (x : List S5) : AV := .dl 7 (x.map encS5) .none
structure S7 where
 c0 : Int
 c1 : Int
 c2 : Int
 c3 : Int
 c4 : Bool
 deriving Inhabited, DecidableEq
def encS7 (x : S7) : AV := .agg [.int .i64 x.c0, .int .i64 x.c1, .int .i64 x.c2, .int .i64 x.c3, .bool x.c4]
def encL8 (x : List S7) : AV := .dl 5 (x.map encS7) .none
structure S9 where
 c0 : (List Bool)
 c1 : Int
 c2 : Int
 c3 : (List S5)
 c4 : (List S7)
 deriving Inhabited, DecidableEq
def encS9 (x : S9) : AV := .agg [.dl 1 (x.c0.map AV.bool) .none, .int .i64 x.c1, .int .i64 x.c2, .dl 7 (x.c3.map encS5) .none, .dl 5 (x.c4.map encS7) .none]
structure S10 where
 c0 : Int
 c1 : Int
 c2 : Int
 c3 : (List Int)
 c4 : Int
 deriving Inhabited, DecidableEq
def encS10 (x : S10) : AV := .agg [.int .i64 x.c0, .int .i64 x.c1, .int .i64 x.c2, .dl 1 (x.c3.map (AV.int .u8)) .none, .int .i64 x.c4]
structure S11 where
 c0 : (List Int)
 deriving Inhabited, DecidableEq
def encS11 (x : S11) : AV := .agg [.dl 1 (x.c0.map (AV.int .u8)) .none]
end Go.Av
end

section
set_option maxRecDepth 10000
namespace Go.Av
open Go.Proofs
theorem ev0 : ((((type_of% @eawp_skip) ∧ ((type_of% @eawp_region) ∧ (type_of% @eawp_exit))) ∧ ((type_of% @eawp_ret) ∧ ((type_of% @thenQ_normal) ∧ (type_of% @thenQ_exit)))) ∧ (((type_of% @thenQ_ret) ∧ ((type_of% @blockQ_normal) ∧ (type_of% @blockQ_ret))) ∧ ((type_of% @blockQ_exit) ∧ ((type_of% @bodyQ_ret) ∧ (type_of% @bodyQ_normal))))) ∧ ((((type_of% @resOne.eq_1) ∧ ((type_of% @resOne.eq_2) ∧ (type_of% @eops_nil))) ∧ ((type_of% @eops_guard) ∧ ((type_of% @guardV_t) ∧ (type_of% @guardV_f)))) ∧ (((type_of% @gval.eq_1) ∧ ((type_of% @eopsK_eq) ∧ (type_of% @eopS_eq))) ∧ ((type_of% @eop_move) ∧ ((type_of% @eop_assign) ∧ (type_of% @eop_pick))))) :=
 ⟨⟨⟨⟨@eawp_skip, ⟨@eawp_region, @eawp_exit⟩⟩, ⟨@eawp_ret, ⟨@thenQ_normal, @thenQ_exit⟩⟩⟩, ⟨⟨@thenQ_ret, ⟨@blockQ_normal, @blockQ_ret⟩⟩, ⟨@blockQ_exit, ⟨@bodyQ_ret, @bodyQ_normal⟩⟩⟩⟩, ⟨⟨⟨@resOne.eq_1, ⟨@resOne.eq_2, @eops_nil⟩⟩, ⟨@eops_guard, ⟨@guardV_t, @guardV_f⟩⟩⟩, ⟨⟨@gval.eq_1, ⟨@eopsK_eq, @eopS_eq⟩⟩, ⟨@eop_move, ⟨@eop_assign, @eop_pick⟩⟩⟩⟩⟩
theorem ev1 : ((((type_of% @eop_binOp) ∧ ((type_of% @eop_unOp) ∧ (type_of% @eop_convert))) ∧ ((type_of% @eop_makeFunc) ∧ ((type_of% @eop_fieldAddr) ∧ (type_of% @eop_field)))) ∧ (((type_of% @eop_indexAddr) ∧ ((type_of% @eop_index) ∧ (type_of% @eop_slice))) ∧ ((type_of% @eop_extract) ∧ ((type_of% @eop_nilCheck) ∧ (type_of% @eop_build))))) ∧ ((((type_of% @eop_load) ∧ ((type_of% @eop_buildSlice) ∧ (type_of% @eop_call))) ∧ ((type_of% @callE_value) ∧ ((type_of% @callE_append) ∧ (type_of% @callE_clear)))) ∧ (((type_of% @callE_len) ∧ ((type_of% @callE_min) ∧ (type_of% @callE_max))) ∧ ((type_of% @callV_func) ∧ ((type_of% @callV_yield) ∧ (type_of% @binE_plain))))) :=
 ⟨⟨⟨⟨@eop_binOp, ⟨@eop_unOp, @eop_convert⟩⟩, ⟨@eop_makeFunc, ⟨@eop_fieldAddr, @eop_field⟩⟩⟩, ⟨⟨@eop_indexAddr, ⟨@eop_index, @eop_slice⟩⟩, ⟨@eop_extract, ⟨@eop_nilCheck, @eop_build⟩⟩⟩⟩, ⟨⟨⟨@eop_load, ⟨@eop_buildSlice, @eop_call⟩⟩, ⟨@callE_value, ⟨@callE_append, @callE_clear⟩⟩⟩, ⟨⟨@callE_len, ⟨@callE_min, @callE_max⟩⟩, ⟨@callV_func, ⟨@callV_yield, @binE_plain⟩⟩⟩⟩⟩
theorem ev2 : ((((type_of% @binE_none) ∧ ((type_of% @binE_nil) ∧ (type_of% @effV.eq_1))) ∧ ((type_of% @effV.eq_2) ∧ ((type_of% @effV.eq_3) ∧ (type_of% @effV.eq_4)))) ∧ (((type_of% @effV.eq_5) ∧ ((type_of% @biA.eq_1) ∧ (type_of% @someK_some))) ∧ ((type_of% @someK2_some) ∧ ((type_of% @branch_true) ∧ (type_of% @branch_false))))) ∧ ((((type_of% @branch_dec) ∧ ((type_of% @branch_not) ∧ (type_of% @branch_and))) ∧ ((type_of% @branch_or) ∧ ((type_of% @ev.eq_1) ∧ (type_of% @ev.eq_2)))) ∧ (((type_of% @ev.eq_3) ∧ ((type_of% @ev.eq_4) ∧ (type_of% @putD.eq_1))) ∧ ((type_of% @putD.eq_2) ∧ ((type_of% @binA.eq_1) ∧ (type_of% @binA.eq_2))))) :=
 ⟨⟨⟨⟨@binE_none, ⟨@binE_nil, @effV.eq_1⟩⟩, ⟨@effV.eq_2, ⟨@effV.eq_3, @effV.eq_4⟩⟩⟩, ⟨⟨@effV.eq_5, ⟨@biA.eq_1, @someK_some⟩⟩, ⟨@someK2_some, ⟨@branch_true, @branch_false⟩⟩⟩⟩, ⟨⟨⟨@branch_dec, ⟨@branch_not, @branch_and⟩⟩, ⟨@branch_or, ⟨@ev.eq_1, @ev.eq_2⟩⟩⟩, ⟨⟨@ev.eq_3, ⟨@ev.eq_4, @putD.eq_1⟩⟩, ⟨@putD.eq_2, ⟨@binA.eq_1, @binA.eq_2⟩⟩⟩⟩⟩
theorem ev3 : ((((type_of% @binA.eq_3) ∧ ((type_of% @binA.eq_4) ∧ (type_of% @binA.eq_5))) ∧ ((type_of% @binA.eq_6) ∧ ((type_of% @binA.eq_7) ∧ (type_of% @binA.eq_8)))) ∧ (((type_of% @binA.eq_9) ∧ ((type_of% @binA.eq_10) ∧ (type_of% @binA.eq_11))) ∧ ((type_of% @binA.eq_12) ∧ ((type_of% @binA.eq_13) ∧ (type_of% @binA.eq_14))))) ∧ ((((type_of% @binA.eq_15) ∧ ((type_of% @binA.eq_16) ∧ (type_of% @binA.eq_17))) ∧ ((type_of% @binA.eq_18) ∧ ((type_of% @binA.eq_19) ∧ (type_of% @binA.eq_20)))) ∧ (((type_of% @binA.eq_21) ∧ ((type_of% @binA.eq_22) ∧ (type_of% @binA.eq_23))) ∧ ((type_of% @binA.eq_24) ∧ ((type_of% @binI.eq_1) ∧ (type_of% @binI.eq_2))))) :=
 ⟨⟨⟨⟨@binA.eq_3, ⟨@binA.eq_4, @binA.eq_5⟩⟩, ⟨@binA.eq_6, ⟨@binA.eq_7, @binA.eq_8⟩⟩⟩, ⟨⟨@binA.eq_9, ⟨@binA.eq_10, @binA.eq_11⟩⟩, ⟨@binA.eq_12, ⟨@binA.eq_13, @binA.eq_14⟩⟩⟩⟩, ⟨⟨⟨@binA.eq_15, ⟨@binA.eq_16, @binA.eq_17⟩⟩, ⟨@binA.eq_18, ⟨@binA.eq_19, @binA.eq_20⟩⟩⟩, ⟨⟨@binA.eq_21, ⟨@binA.eq_22, @binA.eq_23⟩⟩, ⟨@binA.eq_24, ⟨@binI.eq_1, @binI.eq_2⟩⟩⟩⟩⟩
theorem ev4 : ((((type_of% @binI.eq_3) ∧ ((type_of% @binI.eq_4) ∧ (type_of% @binI.eq_5))) ∧ ((type_of% @binI.eq_6) ∧ ((type_of% @binI.eq_7) ∧ (type_of% @binI.eq_8)))) ∧ (((type_of% @binI.eq_9) ∧ ((type_of% @binI.eq_10) ∧ (type_of% @binI.eq_11))) ∧ ((type_of% @binI.eq_12) ∧ ((type_of% @binI.eq_13) ∧ (type_of% @binI.eq_14))))) ∧ ((((type_of% @binI.eq_15) ∧ ((type_of% @binI.eq_16) ∧ (type_of% @binS.eq_1))) ∧ ((type_of% @binS.eq_2) ∧ ((type_of% @binS.eq_3) ∧ (type_of% @binS.eq_4)))) ∧ (((type_of% @binS.eq_5) ∧ ((type_of% @binS.eq_6) ∧ (type_of% @binS.eq_7))) ∧ ((type_of% @binS.eq_8) ∧ ((type_of% @unA.eq_1) ∧ (type_of% @unA.eq_2))))) :=
 ⟨⟨⟨⟨@binI.eq_3, ⟨@binI.eq_4, @binI.eq_5⟩⟩, ⟨@binI.eq_6, ⟨@binI.eq_7, @binI.eq_8⟩⟩⟩, ⟨⟨@binI.eq_9, ⟨@binI.eq_10, @binI.eq_11⟩⟩, ⟨@binI.eq_12, ⟨@binI.eq_13, @binI.eq_14⟩⟩⟩⟩, ⟨⟨⟨@binI.eq_15, ⟨@binI.eq_16, @binS.eq_1⟩⟩, ⟨@binS.eq_2, ⟨@binS.eq_3, @binS.eq_4⟩⟩⟩, ⟨⟨@binS.eq_5, ⟨@binS.eq_6, @binS.eq_7⟩⟩, ⟨@binS.eq_8, ⟨@unA.eq_1, @unA.eq_2⟩⟩⟩⟩⟩
theorem ev5 : ((((type_of% @unA.eq_3) ∧ ((type_of% @unA.eq_4) ∧ (type_of% @convA.eq_1))) ∧ ((type_of% @pickA.eq_1) ∧ ((type_of% @pickA.eq_2) ∧ (type_of% @fieldAddrA.eq_1)))) ∧ (((type_of% @fieldA.eq_1) ∧ ((type_of% @indexA.eq_def) ∧ (type_of% @extractA.eq_1))) ∧ ((type_of% @extractA.eq_2) ∧ ((type_of% @nilCheckA.eq_1) ∧ (type_of% @nilCheckA.eq_2))))) ∧ ((((type_of% @nilCheckA.eq_3) ∧ ((type_of% @nilCheckA.eq_4) ∧ (type_of% @buildA.eq_1))) ∧ ((type_of% @loadA.eq_1) ∧ ((type_of% @cellsAt.eq_1) ∧ (type_of% @cellsAt.eq_2)))) ∧ (((type_of% @cellsAt.eq_3) ∧ ((type_of% @plus.eq_1) ∧ (type_of% @plus.eq_2))) ∧ ((type_of% @plus.eq_3) ∧ ((type_of% @bnd.eq_1) ∧ (type_of% @bnd.eq_2))))) :=
 ⟨⟨⟨⟨@unA.eq_3, ⟨@unA.eq_4, @convA.eq_1⟩⟩, ⟨@pickA.eq_1, ⟨@pickA.eq_2, @fieldAddrA.eq_1⟩⟩⟩, ⟨⟨@fieldA.eq_1, ⟨@indexA.eq_def, @extractA.eq_1⟩⟩, ⟨@extractA.eq_2, ⟨@nilCheckA.eq_1, @nilCheckA.eq_2⟩⟩⟩⟩, ⟨⟨⟨@nilCheckA.eq_3, ⟨@nilCheckA.eq_4, @buildA.eq_1⟩⟩, ⟨@loadA.eq_1, ⟨@cellsAt.eq_1, @cellsAt.eq_2⟩⟩⟩, ⟨⟨@cellsAt.eq_3, ⟨@plus.eq_1, @plus.eq_2⟩⟩, ⟨@plus.eq_3, ⟨@bnd.eq_1, @bnd.eq_2⟩⟩⟩⟩⟩
theorem ev6 : ((((type_of% @bnd.eq_3) ∧ ((type_of% @isK.eq_1) ∧ (type_of% @isBoolK.eq_1))) ∧ ((type_of% @isBoolK.eq_2) ∧ ((type_of% @isPtrK.eq_1) ∧ (type_of% @isPtrK.eq_2)))) ∧ (((type_of% @isFuncK.eq_1) ∧ ((type_of% @isFuncK.eq_2) ∧ (type_of% @isAggK.eq_1))) ∧ ((type_of% @isAggK.eq_2) ∧ ((type_of% @isAggK.eq_3) ∧ (type_of% @ofVal.eq_1))))) ∧ ((((type_of% @ofVal.eq_2) ∧ ((type_of% @ofVal1.eq_1) ∧ (type_of% @ofVal1.eq_2))) ∧ ((type_of% @ofVal1.eq_3) ∧ ((type_of% @ofVal1.eq_4) ∧ (type_of% @ofVal1.eq_5)))) ∧ (((type_of% @ofVal1.eq_6) ∧ ((type_of% @ofVal1.eq_7) ∧ (type_of% @ofVal1.eq_8))) ∧ ((type_of% @ofVal1.eq_9) ∧ ((type_of% @okCells.eq_1) ∧ (type_of% @isUndef.eq_1))))) :=
 ⟨⟨⟨⟨@bnd.eq_3, ⟨@isK.eq_1, @isBoolK.eq_1⟩⟩, ⟨@isBoolK.eq_2, ⟨@isPtrK.eq_1, @isPtrK.eq_2⟩⟩⟩, ⟨⟨@isFuncK.eq_1, ⟨@isFuncK.eq_2, @isAggK.eq_1⟩⟩, ⟨@isAggK.eq_2, ⟨@isAggK.eq_3, @ofVal.eq_1⟩⟩⟩⟩, ⟨⟨⟨@ofVal.eq_2, ⟨@ofVal1.eq_1, @ofVal1.eq_2⟩⟩, ⟨@ofVal1.eq_3, ⟨@ofVal1.eq_4, @ofVal1.eq_5⟩⟩⟩, ⟨⟨@ofVal1.eq_6, ⟨@ofVal1.eq_7, @ofVal1.eq_8⟩⟩, ⟨@ofVal1.eq_9, ⟨@okCells.eq_1, @isUndef.eq_1⟩⟩⟩⟩⟩
theorem ev7 : ((((type_of% @isUndef.eq_2) ∧ ((type_of% @partOk.eq_1) ∧ (type_of% @AV.cells.eq_1))) ∧ ((type_of% @AV.cells.eq_2) ∧ ((type_of% @AV.one.eq_1) ∧ (type_of% @AV.one.eq_2)))) ∧ (((type_of% @AV.one.eq_3) ∧ ((type_of% @AV.one.eq_4) ∧ (type_of% @putA.eq_1))) ∧ ((type_of% @placeA.eq_1) ∧ ((type_of% @placeA.eq_2) ∧ (type_of% @placeA.eq_3))))) ∧ ((((type_of% @allTy.eq_1) ∧ ((type_of% @allTy.eq_2) ∧ (type_of% @allTy.eq_3))) ∧ ((type_of% @setAll.eq_1) ∧ ((type_of% @List.getD_cons_zero.{0}) ∧ (type_of% @List.getD_cons_succ.{0})))) ∧ (((type_of% @List.set_cons_zero.{0}) ∧ ((type_of% @List.set_cons_succ.{0}) ∧ (type_of% @List.getElem?_cons_zero.{0}))) ∧ ((type_of% @List.getElem?_cons_succ.{0}) ∧ ((type_of% @List.map_cons.{0,0}) ∧ (type_of% @List.map_nil.{0,0}))))) :=
 ⟨⟨⟨⟨@isUndef.eq_2, ⟨@partOk.eq_1, @AV.cells.eq_1⟩⟩, ⟨@AV.cells.eq_2, ⟨@AV.one.eq_1, @AV.one.eq_2⟩⟩⟩, ⟨⟨@AV.one.eq_3, ⟨@AV.one.eq_4, @putA.eq_1⟩⟩, ⟨@placeA.eq_1, ⟨@placeA.eq_2, @placeA.eq_3⟩⟩⟩⟩, ⟨⟨⟨@allTy.eq_1, ⟨@allTy.eq_2, @allTy.eq_3⟩⟩, ⟨@setAll.eq_1, ⟨@List.getD_cons_zero.{0}, @List.getD_cons_succ.{0}⟩⟩⟩, ⟨⟨@List.set_cons_zero.{0}, ⟨@List.set_cons_succ.{0}, @List.getElem?_cons_zero.{0}⟩⟩, ⟨@List.getElem?_cons_succ.{0}, ⟨@List.map_cons.{0,0}, @List.map_nil.{0,0}⟩⟩⟩⟩⟩
theorem ev8 : ((((type_of% @List.length_cons.{0}) ∧ ((type_of% @List.length_nil.{0}) ∧ (type_of% @List.all_cons.{0}))) ∧ ((type_of% @List.all_nil.{0}) ∧ ((type_of% @List.drop_succ_cons.{0}) ∧ (type_of% @List.drop_zero.{0})))) ∧ (((type_of% @List.drop_nil.{0}) ∧ ((type_of% @List.take_succ_cons.{0}) ∧ (type_of% @List.take_zero.{0}))) ∧ ((type_of% @List.take_nil.{0}) ∧ ((type_of% @List.cons_append.{0}) ∧ (type_of% @List.nil_append.{0}))))) ∧ ((((type_of% @List.append_nil.{0}) ∧ ((type_of% @List.head?_cons.{0}) ∧ (type_of% @List.foldl_cons.{0,0}))) ∧ ((type_of% @List.foldl_nil.{0,0}) ∧ ((type_of% @List.replicate.eq_1.{0}) ∧ (type_of% @List.replicate.eq_2.{0})))) ∧ (((type_of% @Bool.and_true) ∧ ((type_of% @Bool.true_and) ∧ (type_of% @Bool.not_false))) ∧ ((type_of% @cond_true.{1}) ∧ ((type_of% @cond_false.{1}) ∧ (type_of% @Bool.not_true))))) :=
 ⟨⟨⟨⟨@List.length_cons.{0}, ⟨@List.length_nil.{0}, @List.all_cons.{0}⟩⟩, ⟨@List.all_nil.{0}, ⟨@List.drop_succ_cons.{0}, @List.drop_zero.{0}⟩⟩⟩, ⟨⟨@List.drop_nil.{0}, ⟨@List.take_succ_cons.{0}, @List.take_zero.{0}⟩⟩, ⟨@List.take_nil.{0}, ⟨@List.cons_append.{0}, @List.nil_append.{0}⟩⟩⟩⟩, ⟨⟨⟨@List.append_nil.{0}, ⟨@List.head?_cons.{0}, @List.foldl_cons.{0,0}⟩⟩, ⟨@List.foldl_nil.{0,0}, ⟨@List.replicate.eq_1.{0}, @List.replicate.eq_2.{0}⟩⟩⟩, ⟨⟨@Bool.and_true, ⟨@Bool.true_and, @Bool.not_false⟩⟩, ⟨@cond_true.{1}, ⟨@cond_false.{1}, @Bool.not_true⟩⟩⟩⟩⟩
theorem ev9 : ((((type_of% @Option.bind_some.{0,0}) ∧ ((type_of% @Option.map_some.{0,0}) ∧ (type_of% @Option.map_none.{0,0}))) ∧ ((type_of% @Option.toList.eq_1.{0}) ∧ ((type_of% @Option.toList.eq_2.{0}) ∧ (type_of% @Option.isSome_some.{0})))) ∧ (((type_of% @Option.isNone_none.{0}) ∧ ((type_of% @Option.isSome_none.{0}) ∧ (type_of% @Option.isNone_some.{0}))) ∧ ((type_of% @Nat.zero_add) ∧ ((type_of% @Nat.add_zero) ∧ (type_of% @BEq.rfl.{0}))))) ∧ ((((type_of% @decide_true) ∧ ((type_of% @decide_false) ∧ (type_of% @if_true.{1}))) ∧ ((type_of% @ne_eq.{1}) ∧ ((type_of% @not_false_eq_true) ∧ (type_of% @not_true_eq_false)))) ∧ (((type_of% @true_and) ∧ ((type_of% @and_true) ∧ (type_of% @and_self))) ∧ ((type_of% @isNil.eq_1) ∧ ((type_of% @isNil.eq_2) ∧ (type_of% @isNe.eq_1))))) :=
 ⟨⟨⟨⟨@Option.bind_some.{0,0}, ⟨@Option.map_some.{0,0}, @Option.map_none.{0,0}⟩⟩, ⟨@Option.toList.eq_1.{0}, ⟨@Option.toList.eq_2.{0}, @Option.isSome_some.{0}⟩⟩⟩, ⟨⟨@Option.isNone_none.{0}, ⟨@Option.isSome_none.{0}, @Option.isNone_some.{0}⟩⟩, ⟨@Nat.zero_add, ⟨@Nat.add_zero, @BEq.rfl.{0}⟩⟩⟩⟩, ⟨⟨⟨@decide_true, ⟨@decide_false, @if_true.{1}⟩⟩, ⟨@ne_eq.{1}, ⟨@not_false_eq_true, @not_true_eq_false⟩⟩⟩, ⟨⟨@true_and, ⟨@and_true, @and_self⟩⟩, ⟨@isNil.eq_1, ⟨@isNil.eq_2, @isNe.eq_1⟩⟩⟩⟩⟩
theorem ev10 : ((((type_of% @isNe.eq_2) ∧ ((type_of% @isNe.eq_3) ∧ (type_of% @NilE.eq_1))) ∧ ((type_of% @NilE.eq_2) ∧ ((type_of% @NilE.eq_3) ∧ (type_of% @isSliceT.eq_1)))) ∧ (((type_of% @eawp_draw) ∧ ((type_of% @roundQ_normal) ∧ (type_of% @assignQ_normal))) ∧ ((type_of% @setArgs.eq_1) ∧ ((type_of% @List.zip_cons_cons.{0,0}) ∧ (type_of% @List.zip_nil_left.{0,0}))))) ∧ ((((type_of% @List.zip_nil_right.{0,0}) ∧ ((type_of% @shl_u64_1) ∧ (type_of% @shr_u64_1))) ∧ ((type_of% @shl_u64_2) ∧ ((type_of% @shr_u64_2) ∧ (type_of% @shl_u64_3)))) ∧ (((type_of% @shr_u64_3) ∧ ((type_of% @shl_u64_4) ∧ (type_of% @shr_u64_4))) ∧ ((type_of% @shl_u64_6) ∧ ((type_of% @shr_u64_6) ∧ (type_of% @shl_u64_7))))) :=
 ⟨⟨⟨⟨@isNe.eq_2, ⟨@isNe.eq_3, @NilE.eq_1⟩⟩, ⟨@NilE.eq_2, ⟨@NilE.eq_3, @isSliceT.eq_1⟩⟩⟩, ⟨⟨@eawp_draw, ⟨@roundQ_normal, @assignQ_normal⟩⟩, ⟨@setArgs.eq_1, ⟨@List.zip_cons_cons.{0,0}, @List.zip_nil_left.{0,0}⟩⟩⟩⟩, ⟨⟨⟨@List.zip_nil_right.{0,0}, ⟨@shl_u64_1, @shr_u64_1⟩⟩, ⟨@shl_u64_2, ⟨@shr_u64_2, @shl_u64_3⟩⟩⟩, ⟨⟨@shr_u64_3, ⟨@shl_u64_4, @shr_u64_4⟩⟩, ⟨@shl_u64_6, ⟨@shr_u64_6, @shl_u64_7⟩⟩⟩⟩⟩
theorem ev11 : ((((type_of% @shr_u64_7) ∧ ((type_of% @shl_u64_8) ∧ (type_of% @shr_u64_8))) ∧ ((type_of% @shl_u64_16) ∧ ((type_of% @shr_u64_16) ∧ (type_of% @shl_u64_24)))) ∧ (((type_of% @shr_u64_24) ∧ ((type_of% @shl_u64_32) ∧ (type_of% @shr_u64_32))) ∧ ((type_of% @shl_u64_40) ∧ ((type_of% @shr_u64_40) ∧ (type_of% @shl_u64_48))))) ∧ ((((type_of% @shr_u64_48) ∧ ((type_of% @shl_u64_56) ∧ (type_of% @shr_u64_56))) ∧ ((type_of% @shl_u64_63) ∧ ((type_of% @shr_u64_63) ∧ (type_of% @shl_i64_1)))) ∧ (((type_of% @shr_i64_1) ∧ ((type_of% @shl_i64_2) ∧ (type_of% @shr_i64_2))) ∧ ((type_of% @shl_i64_3) ∧ ((type_of% @shr_i64_3) ∧ (type_of% @shl_i64_4))))) :=
 ⟨⟨⟨⟨@shr_u64_7, ⟨@shl_u64_8, @shr_u64_8⟩⟩, ⟨@shl_u64_16, ⟨@shr_u64_16, @shl_u64_24⟩⟩⟩, ⟨⟨@shr_u64_24, ⟨@shl_u64_32, @shr_u64_32⟩⟩, ⟨@shl_u64_40, ⟨@shr_u64_40, @shl_u64_48⟩⟩⟩⟩, ⟨⟨⟨@shr_u64_48, ⟨@shl_u64_56, @shr_u64_56⟩⟩, ⟨@shl_u64_63, ⟨@shr_u64_63, @shl_i64_1⟩⟩⟩, ⟨⟨@shr_i64_1, ⟨@shl_i64_2, @shr_i64_2⟩⟩, ⟨@shl_i64_3, ⟨@shr_i64_3, @shl_i64_4⟩⟩⟩⟩⟩
theorem ev12 : ((((type_of% @shr_i64_4) ∧ ((type_of% @shl_i64_6) ∧ (type_of% @shr_i64_6))) ∧ ((type_of% @shl_i64_7) ∧ ((type_of% @shr_i64_7) ∧ (type_of% @shl_i64_8)))) ∧ (((type_of% @shr_i64_8) ∧ ((type_of% @shl_i64_16) ∧ (type_of% @shr_i64_16))) ∧ ((type_of% @shl_i64_24) ∧ ((type_of% @shr_i64_24) ∧ (type_of% @shl_i64_32))))) ∧ ((((type_of% @shr_i64_32) ∧ ((type_of% @shl_i64_40) ∧ (type_of% @shr_i64_40))) ∧ ((type_of% @shl_i64_48) ∧ ((type_of% @shr_i64_48) ∧ (type_of% @shl_i64_56)))) ∧ (((type_of% @shr_i64_56) ∧ ((type_of% @shl_i64_63) ∧ (type_of% @shr_i64_63))) ∧ ((type_of% @shl_u8_1) ∧ ((type_of% @shr_u8_1) ∧ (type_of% @shl_u8_2))))) :=
 ⟨⟨⟨⟨@shr_i64_4, ⟨@shl_i64_6, @shr_i64_6⟩⟩, ⟨@shl_i64_7, ⟨@shr_i64_7, @shl_i64_8⟩⟩⟩, ⟨⟨@shr_i64_8, ⟨@shl_i64_16, @shr_i64_16⟩⟩, ⟨@shl_i64_24, ⟨@shr_i64_24, @shl_i64_32⟩⟩⟩⟩, ⟨⟨⟨@shr_i64_32, ⟨@shl_i64_40, @shr_i64_40⟩⟩, ⟨@shl_i64_48, ⟨@shr_i64_48, @shl_i64_56⟩⟩⟩, ⟨⟨@shr_i64_56, ⟨@shl_i64_63, @shr_i64_63⟩⟩, ⟨@shl_u8_1, ⟨@shr_u8_1, @shl_u8_2⟩⟩⟩⟩⟩
theorem ev13 : ((((type_of% @shr_u8_2) ∧ ((type_of% @shl_u8_3) ∧ (type_of% @shr_u8_3))) ∧ ((type_of% @shl_u8_4) ∧ ((type_of% @shr_u8_4) ∧ (type_of% @shl_u8_6)))) ∧ (((type_of% @shr_u8_6) ∧ ((type_of% @shl_u8_7) ∧ (type_of% @shr_u8_7))) ∧ ((type_of% @shl_u8_8) ∧ ((type_of% @shr_u8_8) ∧ (type_of% @shl_u8_16))))) ∧ ((((type_of% @shr_u8_16) ∧ ((type_of% @shl_u8_24) ∧ (type_of% @shr_u8_24))) ∧ ((type_of% @shl_u8_32) ∧ ((type_of% @shr_u8_32) ∧ (type_of% @shl_u8_40)))) ∧ (((type_of% @shr_u8_40) ∧ ((type_of% @shl_u8_48) ∧ (type_of% @shr_u8_48))) ∧ ((type_of% @shl_u8_56) ∧ ((type_of% @shr_u8_56) ∧ (type_of% @shl_u8_63))))) :=
 ⟨⟨⟨⟨@shr_u8_2, ⟨@shl_u8_3, @shr_u8_3⟩⟩, ⟨@shl_u8_4, ⟨@shr_u8_4, @shl_u8_6⟩⟩⟩, ⟨⟨@shr_u8_6, ⟨@shl_u8_7, @shr_u8_7⟩⟩, ⟨@shl_u8_8, ⟨@shr_u8_8, @shl_u8_16⟩⟩⟩⟩, ⟨⟨⟨@shr_u8_16, ⟨@shl_u8_24, @shr_u8_24⟩⟩, ⟨@shl_u8_32, ⟨@shr_u8_32, @shl_u8_40⟩⟩⟩, ⟨⟨@shr_u8_40, ⟨@shl_u8_48, @shr_u8_48⟩⟩, ⟨@shl_u8_56, ⟨@shr_u8_56, @shl_u8_63⟩⟩⟩⟩⟩
theorem ev14 : ((((type_of% @shr_u8_63) ∧ ((type_of% @shl_u32_1) ∧ (type_of% @shr_u32_1))) ∧ ((type_of% @shl_u32_2) ∧ ((type_of% @shr_u32_2) ∧ (type_of% @shl_u32_3)))) ∧ (((type_of% @shr_u32_3) ∧ ((type_of% @shl_u32_4) ∧ (type_of% @shr_u32_4))) ∧ ((type_of% @shl_u32_6) ∧ ((type_of% @shr_u32_6) ∧ (type_of% @shl_u32_7))))) ∧ ((((type_of% @shr_u32_7) ∧ ((type_of% @shl_u32_8) ∧ (type_of% @shr_u32_8))) ∧ ((type_of% @shl_u32_16) ∧ ((type_of% @shr_u32_16) ∧ (type_of% @shl_u32_24)))) ∧ (((type_of% @shr_u32_24) ∧ ((type_of% @shl_u32_32) ∧ (type_of% @shr_u32_32))) ∧ ((type_of% @shl_u32_40) ∧ ((type_of% @shr_u32_40) ∧ (type_of% @shl_u32_48))))) :=
 ⟨⟨⟨⟨@shr_u8_63, ⟨@shl_u32_1, @shr_u32_1⟩⟩, ⟨@shl_u32_2, ⟨@shr_u32_2, @shl_u32_3⟩⟩⟩, ⟨⟨@shr_u32_3, ⟨@shl_u32_4, @shr_u32_4⟩⟩, ⟨@shl_u32_6, ⟨@shr_u32_6, @shl_u32_7⟩⟩⟩⟩, ⟨⟨⟨@shr_u32_7, ⟨@shl_u32_8, @shr_u32_8⟩⟩, ⟨@shl_u32_16, ⟨@shr_u32_16, @shl_u32_24⟩⟩⟩, ⟨⟨@shr_u32_24, ⟨@shl_u32_32, @shr_u32_32⟩⟩, ⟨@shl_u32_40, ⟨@shr_u32_40, @shl_u32_48⟩⟩⟩⟩⟩
theorem ev15 : ((((type_of% @shr_u32_48) ∧ ((type_of% @shl_u32_56) ∧ (type_of% @shr_u32_56))) ∧ ((type_of% @shl_u32_63) ∧ ((type_of% @shr_u32_63) ∧ (type_of% @shl_i32_1)))) ∧ (((type_of% @shr_i32_1) ∧ ((type_of% @shl_i32_2) ∧ (type_of% @shr_i32_2))) ∧ ((type_of% @shl_i32_3) ∧ ((type_of% @shr_i32_3) ∧ (type_of% @shl_i32_4))))) ∧ ((((type_of% @shr_i32_4) ∧ ((type_of% @shl_i32_6) ∧ (type_of% @shr_i32_6))) ∧ ((type_of% @shl_i32_7) ∧ ((type_of% @shr_i32_7) ∧ (type_of% @shl_i32_8)))) ∧ (((type_of% @shr_i32_8) ∧ ((type_of% @shl_i32_16) ∧ (type_of% @shr_i32_16))) ∧ ((type_of% @shl_i32_24) ∧ ((type_of% @shr_i32_24) ∧ (type_of% @shl_i32_32))))) :=
 ⟨⟨⟨⟨@shr_u32_48, ⟨@shl_u32_56, @shr_u32_56⟩⟩, ⟨@shl_u32_63, ⟨@shr_u32_63, @shl_i32_1⟩⟩⟩, ⟨⟨@shr_i32_1, ⟨@shl_i32_2, @shr_i32_2⟩⟩, ⟨@shl_i32_3, ⟨@shr_i32_3, @shl_i32_4⟩⟩⟩⟩, ⟨⟨⟨@shr_i32_4, ⟨@shl_i32_6, @shr_i32_6⟩⟩, ⟨@shl_i32_7, ⟨@shr_i32_7, @shl_i32_8⟩⟩⟩, ⟨⟨@shr_i32_8, ⟨@shl_i32_16, @shr_i32_16⟩⟩, ⟨@shl_i32_24, ⟨@shr_i32_24, @shl_i32_32⟩⟩⟩⟩⟩
theorem ev16 : ((((type_of% @shr_i32_32) ∧ ((type_of% @shl_i32_40) ∧ (type_of% @shr_i32_40))) ∧ ((type_of% @shl_i32_48) ∧ ((type_of% @shr_i32_48) ∧ (type_of% @shl_i32_56)))) ∧ (((type_of% @shr_i32_56) ∧ ((type_of% @shl_i32_63) ∧ (type_of% @shr_i32_63))) ∧ ((type_of% @Int.toNat_natCast) ∧ ((type_of% @Nat.le_refl) ∧ (type_of% @Nat.zero_le))))) ∧ ((((type_of% @dops_nil) ∧ ((type_of% @dops_cons) ∧ (type_of% @dopsO_some))) ∧ ((type_of% @opK_guard) ∧ ((type_of% @opC_eq) ∧ (type_of% @opF_eq)))) ∧ (((type_of% @reK_eq) ∧ ((type_of% @reAll.eq_1) ∧ (type_of% @reAll.eq_2))) ∧ ((type_of% @reOne.eq_1) ∧ ((type_of% @flV.eq_1) ∧ (type_of% @flV.eq_2))))) :=
 ⟨⟨⟨⟨@shr_i32_32, ⟨@shl_i32_40, @shr_i32_40⟩⟩, ⟨@shl_i32_48, ⟨@shr_i32_48, @shl_i32_56⟩⟩⟩, ⟨⟨@shr_i32_56, ⟨@shl_i32_63, @shr_i32_63⟩⟩, ⟨@Int.toNat_natCast, ⟨@Nat.le_refl, @Nat.zero_le⟩⟩⟩⟩, ⟨⟨⟨@dops_nil, ⟨@dops_cons, @dopsO_some⟩⟩, ⟨@opK_guard, ⟨@opC_eq, @opF_eq⟩⟩⟩, ⟨⟨@reK_eq, ⟨@reAll.eq_1, @reAll.eq_2⟩⟩, ⟨@reOne.eq_1, ⟨@flV.eq_1, @flV.eq_2⟩⟩⟩⟩⟩
theorem ev17 : ((((type_of% @flV.eq_3) ∧ ((type_of% @pureA.eq_1) ∧ (type_of% @pureA.eq_2))) ∧ ((type_of% @pureA.eq_3) ∧ ((type_of% @pureA.eq_4) ∧ (type_of% @pureA.eq_5)))) ∧ (((type_of% @pureA.eq_6) ∧ ((type_of% @pureA.eq_7) ∧ (type_of% @pureA.eq_8))) ∧ ((type_of% @pureA.eq_9) ∧ ((type_of% @pureA.eq_10) ∧ (type_of% @pureA.eq_11))))) ∧ ((((type_of% @pureA.eq_12) ∧ ((type_of% @pureA.eq_13) ∧ (type_of% @pureA.eq_14))) ∧ ((type_of% @pureA.eq_15) ∧ ((type_of% @pureA.eq_16) ∧ (type_of% @pureA.eq_17)))) ∧ (((type_of% @pureA.eq_18) ∧ ((type_of% @wantA.eq_1) ∧ (type_of% @wantA.eq_2))) ∧ ((type_of% @List.length_map.{0,0}) ∧ ((type_of% @Int.cast_ofNat_Int) ∧ (type_of% @Int.natCast_zero))))) :=
 ⟨⟨⟨⟨@flV.eq_3, ⟨@pureA.eq_1, @pureA.eq_2⟩⟩, ⟨@pureA.eq_3, ⟨@pureA.eq_4, @pureA.eq_5⟩⟩⟩, ⟨⟨@pureA.eq_6, ⟨@pureA.eq_7, @pureA.eq_8⟩⟩, ⟨@pureA.eq_9, ⟨@pureA.eq_10, @pureA.eq_11⟩⟩⟩⟩, ⟨⟨⟨@pureA.eq_12, ⟨@pureA.eq_13, @pureA.eq_14⟩⟩, ⟨@pureA.eq_15, ⟨@pureA.eq_16, @pureA.eq_17⟩⟩⟩, ⟨⟨@pureA.eq_18, ⟨@wantA.eq_1, @wantA.eq_2⟩⟩, ⟨@List.length_map.{0,0}, ⟨@Int.cast_ofNat_Int, @Int.natCast_zero⟩⟩⟩⟩⟩
theorem ev18 : ((((type_of% @minA.eq_1) ∧ ((type_of% @minA.eq_2) ∧ (type_of% @maxA.eq_1))) ∧ ((type_of% @maxA.eq_2) ∧ ((type_of% @and_false) ∧ (type_of% @false_and)))) ∧ (((type_of% @Nat.sub_zero) ∧ ((type_of% @Bool.true_beq) ∧ (type_of% @Bool.false_beq))) ∧ ((type_of% @convB.eq_1) ∧ ((type_of% @bytesA.eq_1) ∧ (type_of% @isU8.eq_1))))) ∧ ((((type_of% @isU8.eq_2) ∧ ((type_of% @callE_cap) ∧ (type_of% @capA.eq_1))) ∧ ((type_of% @List.toList_toArray.{0}) ∧ ((type_of% @eq_self.{1}) ∧ (type_of% @true_or)))) ∧ (((type_of% @or_true) ∧ ((type_of% @resA_nil) ∧ (type_of% @resA_one))) ∧ ((type_of% @Nat.mul_one) ∧ ((type_of% @List.take_length.{0}) ∧ (type_of% @resA_two))))) :=
 ⟨⟨⟨⟨@minA.eq_1, ⟨@minA.eq_2, @maxA.eq_1⟩⟩, ⟨@maxA.eq_2, ⟨@and_false, @false_and⟩⟩⟩, ⟨⟨@Nat.sub_zero, ⟨@Bool.true_beq, @Bool.false_beq⟩⟩, ⟨@convB.eq_1, ⟨@bytesA.eq_1, @isU8.eq_1⟩⟩⟩⟩, ⟨⟨⟨@isU8.eq_2, ⟨@callE_cap, @capA.eq_1⟩⟩, ⟨@List.toList_toArray.{0}, ⟨@eq_self.{1}, @true_or⟩⟩⟩, ⟨⟨@or_true, ⟨@resA_nil, @resA_one⟩⟩, ⟨@Nat.mul_one, ⟨@List.take_length.{0}, @resA_two⟩⟩⟩⟩⟩
theorem ev19 : ((((type_of% @resA_three) ∧ ((type_of% @resA_four) ∧ (type_of% @ty1))) ∧ ((type_of% @ty2) ∧ ((type_of% @ty3) ∧ (type_of% @ty4)))) ∧ (((type_of% @ty5) ∧ ((type_of% @ty6) ∧ (type_of% @ty7))) ∧ ((type_of% @ty8) ∧ ((type_of% @ty9) ∧ (type_of% @ty10))))) ∧ ((((type_of% @ty11) ∧ ((type_of% @ty12) ∧ (type_of% @ty13))) ∧ ((type_of% @ty14) ∧ ((type_of% @ty15) ∧ (type_of% @ty16)))) ∧ (((type_of% @ty17) ∧ ((type_of% @ty18) ∧ (type_of% @ty19))) ∧ ((type_of% @ty20) ∧ ((type_of% @ty21) ∧ (type_of% @ty22))))) :=
 ⟨⟨⟨⟨@resA_three, ⟨@resA_four, @ty1⟩⟩, ⟨@ty2, ⟨@ty3, @ty4⟩⟩⟩, ⟨⟨@ty5, ⟨@ty6, @ty7⟩⟩, ⟨@ty8, ⟨@ty9, @ty10⟩⟩⟩⟩, ⟨⟨⟨@ty11, ⟨@ty12, @ty13⟩⟩, ⟨@ty14, ⟨@ty15, @ty16⟩⟩⟩, ⟨⟨@ty17, ⟨@ty18, @ty19⟩⟩, ⟨@ty20, ⟨@ty21, @ty22⟩⟩⟩⟩⟩
theorem ev20 : ((((type_of% @ty23) ∧ ((type_of% @ty25) ∧ (type_of% @ty26))) ∧ ((type_of% @ty27) ∧ ((type_of% @ty28) ∧ (type_of% @ty29)))) ∧ (((type_of% @ty30) ∧ ((type_of% @ty31) ∧ (type_of% @ty32))) ∧ ((type_of% @ty34) ∧ ((type_of% @ty36) ∧ (type_of% @ty37))))) ∧ ((((type_of% @ty38) ∧ ((type_of% @ty39) ∧ (type_of% @ty40))) ∧ ((type_of% @ty41) ∧ ((type_of% @ty42) ∧ (type_of% @ty43)))) ∧ (((type_of% @ty44) ∧ ((type_of% @ty45) ∧ (type_of% @ty46))) ∧ ((type_of% @ty47) ∧ ((type_of% @ty48) ∧ (type_of% @ty49))))) :=
 ⟨⟨⟨⟨@ty23, ⟨@ty25, @ty26⟩⟩, ⟨@ty27, ⟨@ty28, @ty29⟩⟩⟩, ⟨⟨@ty30, ⟨@ty31, @ty32⟩⟩, ⟨@ty34, ⟨@ty36, @ty37⟩⟩⟩⟩, ⟨⟨⟨@ty38, ⟨@ty39, @ty40⟩⟩, ⟨@ty41, ⟨@ty42, @ty43⟩⟩⟩, ⟨⟨@ty44, ⟨@ty45, @ty46⟩⟩, ⟨@ty47, ⟨@ty48, @ty49⟩⟩⟩⟩⟩
theorem ev21 : ((((type_of% @ty50) ∧ ((type_of% @ty52) ∧ (type_of% @ty53))) ∧ ((type_of% @ty54) ∧ ((type_of% @ty55) ∧ (type_of% @ty56)))) ∧ (((type_of% @ty57) ∧ ((type_of% @ty58) ∧ (type_of% @ty59))) ∧ ((type_of% @ty60) ∧ ((type_of% @ty61) ∧ (type_of% @ty62))))) ∧ ((((type_of% @ty63) ∧ ((type_of% @ty64) ∧ (type_of% @ty65))) ∧ ((type_of% @ty66) ∧ ((type_of% @ty67) ∧ (type_of% @ty68)))) ∧ (((type_of% @ty69) ∧ ((type_of% @ty70) ∧ (type_of% @ty71))) ∧ ((type_of% @ty72) ∧ ((type_of% @ty74) ∧ (type_of% @ty75))))) :=
 ⟨⟨⟨⟨@ty50, ⟨@ty52, @ty53⟩⟩, ⟨@ty54, ⟨@ty55, @ty56⟩⟩⟩, ⟨⟨@ty57, ⟨@ty58, @ty59⟩⟩, ⟨@ty60, ⟨@ty61, @ty62⟩⟩⟩⟩, ⟨⟨⟨@ty63, ⟨@ty64, @ty65⟩⟩, ⟨@ty66, ⟨@ty67, @ty68⟩⟩⟩, ⟨⟨@ty69, ⟨@ty70, @ty71⟩⟩, ⟨@ty72, ⟨@ty74, @ty75⟩⟩⟩⟩⟩
theorem ev22 : ((((type_of% @ty76) ∧ ((type_of% @ty78) ∧ (type_of% @ty79))) ∧ ((type_of% @ty80) ∧ ((type_of% @ty81) ∧ (type_of% @ty82)))) ∧ (((type_of% @ty83) ∧ ((type_of% @ty84) ∧ (type_of% @ty85))) ∧ ((type_of% @ty86) ∧ ((type_of% @ty87) ∧ (type_of% @ty88))))) ∧ ((((type_of% @ty89) ∧ ((type_of% @ty90) ∧ (type_of% @ty91))) ∧ ((type_of% @ty92) ∧ ((type_of% @ty93) ∧ (type_of% @ty94)))) ∧ (((type_of% @ty95) ∧ ((type_of% @ty96) ∧ (type_of% @ty97))) ∧ ((type_of% @ty98) ∧ ((type_of% @ty99) ∧ (type_of% @ty100))))) :=
 ⟨⟨⟨⟨@ty76, ⟨@ty78, @ty79⟩⟩, ⟨@ty80, ⟨@ty81, @ty82⟩⟩⟩, ⟨⟨@ty83, ⟨@ty84, @ty85⟩⟩, ⟨@ty86, ⟨@ty87, @ty88⟩⟩⟩⟩, ⟨⟨⟨@ty89, ⟨@ty90, @ty91⟩⟩, ⟨@ty92, ⟨@ty93, @ty94⟩⟩⟩, ⟨⟨@ty95, ⟨@ty96, @ty97⟩⟩, ⟨@ty98, ⟨@ty99, @ty100⟩⟩⟩⟩⟩
theorem ev23 : ((((type_of% @ty101) ∧ ((type_of% @ty102) ∧ (type_of% @ty103))) ∧ ((type_of% @ty104) ∧ ((type_of% @ty105) ∧ (type_of% @ty106)))) ∧ (((type_of% @ty107) ∧ ((type_of% @ty108) ∧ (type_of% @ty109))) ∧ ((type_of% @ty110) ∧ ((type_of% @ty111) ∧ (type_of% @ty112))))) ∧ ((((type_of% @ty113) ∧ ((type_of% @ty114) ∧ (type_of% @ty115))) ∧ ((type_of% @ty116) ∧ ((type_of% @ty117) ∧ (type_of% @ty118)))) ∧ (((type_of% @ty119) ∧ ((type_of% @ty120) ∧ (type_of% @ty121))) ∧ ((type_of% @ty122) ∧ ((type_of% @ty123) ∧ (type_of% @ty125))))) :=
 ⟨⟨⟨⟨@ty101, ⟨@ty102, @ty103⟩⟩, ⟨@ty104, ⟨@ty105, @ty106⟩⟩⟩, ⟨⟨@ty107, ⟨@ty108, @ty109⟩⟩, ⟨@ty110, ⟨@ty111, @ty112⟩⟩⟩⟩, ⟨⟨⟨@ty113, ⟨@ty114, @ty115⟩⟩, ⟨@ty116, ⟨@ty117, @ty118⟩⟩⟩, ⟨⟨@ty119, ⟨@ty120, @ty121⟩⟩, ⟨@ty122, ⟨@ty123, @ty125⟩⟩⟩⟩⟩
theorem ev24 : ((((type_of% @ty127) ∧ ((type_of% @ty128) ∧ (type_of% @ty129))) ∧ ((type_of% @ty130) ∧ ((type_of% @ty131) ∧ (type_of% @ty132)))) ∧ (((type_of% @ty133) ∧ ((type_of% @ty134) ∧ (type_of% @ty135))) ∧ ((type_of% @ty136) ∧ ((type_of% @ty137) ∧ (type_of% @ty138))))) ∧ ((((type_of% @ty139) ∧ ((type_of% @ty140) ∧ (type_of% @ty141))) ∧ ((type_of% @ty142) ∧ ((type_of% @ty143) ∧ (type_of% @ty145)))) ∧ (((type_of% @ty146) ∧ ((type_of% @ty147) ∧ (type_of% @ty148))) ∧ ((type_of% @ty149) ∧ ((type_of% @ty150) ∧ (type_of% @ty151))))) :=
 ⟨⟨⟨⟨@ty127, ⟨@ty128, @ty129⟩⟩, ⟨@ty130, ⟨@ty131, @ty132⟩⟩⟩, ⟨⟨@ty133, ⟨@ty134, @ty135⟩⟩, ⟨@ty136, ⟨@ty137, @ty138⟩⟩⟩⟩, ⟨⟨⟨@ty139, ⟨@ty140, @ty141⟩⟩, ⟨@ty142, ⟨@ty143, @ty145⟩⟩⟩, ⟨⟨@ty146, ⟨@ty147, @ty148⟩⟩, ⟨@ty149, ⟨@ty150, @ty151⟩⟩⟩⟩⟩
theorem ev25 : ((((type_of% @ty152) ∧ ((type_of% @ty153) ∧ (type_of% @ty154))) ∧ ((type_of% @ty155) ∧ ((type_of% @ty156) ∧ (type_of% @ty157)))) ∧ (((type_of% @ty158) ∧ ((type_of% @ty159) ∧ (type_of% @ty160))) ∧ ((type_of% @ty161) ∧ ((type_of% @ty163) ∧ (type_of% @ty165))))) ∧ ((((type_of% @ty166) ∧ ((type_of% @ty167) ∧ (type_of% @ty168))) ∧ ((type_of% @ty169) ∧ ((type_of% @ty170) ∧ (type_of% @ty171)))) ∧ (((type_of% @ty172) ∧ ((type_of% @ty173) ∧ (type_of% @ty174))) ∧ ((type_of% @ty175) ∧ ((type_of% @ty176) ∧ (type_of% @ty178))))) :=
 ⟨⟨⟨⟨@ty152, ⟨@ty153, @ty154⟩⟩, ⟨@ty155, ⟨@ty156, @ty157⟩⟩⟩, ⟨⟨@ty158, ⟨@ty159, @ty160⟩⟩, ⟨@ty161, ⟨@ty163, @ty165⟩⟩⟩⟩, ⟨⟨⟨@ty166, ⟨@ty167, @ty168⟩⟩, ⟨@ty169, ⟨@ty170, @ty171⟩⟩⟩, ⟨⟨@ty172, ⟨@ty173, @ty174⟩⟩, ⟨@ty175, ⟨@ty176, @ty178⟩⟩⟩⟩⟩
theorem ev26 : ((((type_of% @ty179) ∧ ((type_of% @ty181) ∧ (type_of% @ty182))) ∧ ((type_of% @ty183) ∧ ((type_of% @ty184) ∧ (type_of% @ty185)))) ∧ (((type_of% @ty186) ∧ ((type_of% @ty187) ∧ (type_of% @ty188))) ∧ ((type_of% @ty190) ∧ ((type_of% @ty191) ∧ (type_of% @ty192))))) ∧ ((((type_of% @ty193) ∧ ((type_of% @ty194) ∧ (type_of% @ty195))) ∧ ((type_of% @ty196) ∧ ((type_of% @ty197) ∧ (type_of% @ty198)))) ∧ (((type_of% @ty199) ∧ ((type_of% @ty200) ∧ (type_of% @ty201))) ∧ ((type_of% @ty202) ∧ ((type_of% @ty203) ∧ (type_of% @ty204))))) :=
 ⟨⟨⟨⟨@ty179, ⟨@ty181, @ty182⟩⟩, ⟨@ty183, ⟨@ty184, @ty185⟩⟩⟩, ⟨⟨@ty186, ⟨@ty187, @ty188⟩⟩, ⟨@ty190, ⟨@ty191, @ty192⟩⟩⟩⟩, ⟨⟨⟨@ty193, ⟨@ty194, @ty195⟩⟩, ⟨@ty196, ⟨@ty197, @ty198⟩⟩⟩, ⟨⟨@ty199, ⟨@ty200, @ty201⟩⟩, ⟨@ty202, ⟨@ty203, @ty204⟩⟩⟩⟩⟩
theorem ev27 : ((((type_of% @encL0.eq_1) ∧ ((type_of% @encS1.eq_1) ∧ (type_of% @encS2.eq_1))) ∧ ((type_of% @encS3.eq_1) ∧ ((type_of% @encL4.eq_1) ∧ (type_of% @encS5.eq_1)))) ∧ (((type_of% @encL6.eq_1) ∧ ((type_of% @encS7.eq_1) ∧ (type_of% @encL8.eq_1))) ∧ ((type_of% @encS9.eq_1) ∧ ((type_of% @encS10.eq_1) ∧ (type_of% @encS11.eq_1))))) ∧ ((((type_of% @lenTs.eq_1) ∧ ((type_of% @lenTs.eq_2) ∧ (type_of% @lenStr.eq_1))) ∧ ((type_of% @lenStr.eq_2) ∧ ((type_of% @idxD.eq_1) ∧ (type_of% @idxD.eq_2)))) ∧ (((type_of% @idxS.eq_1) ∧ ((type_of% @idxS.eq_2) ∧ (type_of% @lenA_dl))) ∧ ((type_of% @lenA_sl) ∧ ((type_of% @lenA_str) ∧ (type_of% @idxA_dl))))) :=
 ⟨⟨⟨⟨@encL0.eq_1, ⟨@encS1.eq_1, @encS2.eq_1⟩⟩, ⟨@encS3.eq_1, ⟨@encL4.eq_1, @encS5.eq_1⟩⟩⟩, ⟨⟨@encL6.eq_1, ⟨@encS7.eq_1, @encL8.eq_1⟩⟩, ⟨@encS9.eq_1, ⟨@encS10.eq_1, @encS11.eq_1⟩⟩⟩⟩, ⟨⟨⟨@lenTs.eq_1, ⟨@lenTs.eq_2, @lenStr.eq_1⟩⟩, ⟨@lenStr.eq_2, ⟨@idxD.eq_1, @idxD.eq_2⟩⟩⟩, ⟨⟨@idxS.eq_1, ⟨@idxS.eq_2, @lenA_dl⟩⟩, ⟨@lenA_sl, ⟨@lenA_str, @idxA_dl⟩⟩⟩⟩⟩
theorem ev28 : ((((type_of% @idxA_sl) ∧ ((type_of% @kAt_eq) ∧ (type_of% @eops_plainA))) ∧ ((type_of% @eopR_eqA) ∧ ((type_of% @opK_plainA) ∧ (type_of% @opT_eqA)))) ∧ (((type_of% @Br_true) ∧ ((type_of% @Br_false) ∧ (type_of% @take_enc))) ∧ ((type_of% @drop_enc) ∧ ((type_of% @head_enc2) ∧ (type_of% @head_enc0))))) ∧ ((((type_of% @eop_store) ∧ ((type_of% @eop_makeSlice) ∧ (type_of% @getD_enc))) ∧ ((type_of% @getD_enc0) ∧ ((type_of% @map_app) ∧ (type_of% @eop_boxE)))) ∧ (((type_of% @guardV_n) ∧ ((type_of% @fillA_nil) ∧ (type_of% @fillA_cons))) ∧ ((type_of% @fillP_some) ∧ ((type_of% @eqA.eq_1) ∧ (type_of% @eqA.eq_2))))) :=
 ⟨⟨⟨⟨@idxA_sl, ⟨@kAt_eq, @eops_plainA⟩⟩, ⟨@eopR_eqA, ⟨@opK_plainA, @opT_eqA⟩⟩⟩, ⟨⟨@Br_true, ⟨@Br_false, @take_enc⟩⟩, ⟨@drop_enc, ⟨@head_enc2, @head_enc0⟩⟩⟩⟩, ⟨⟨⟨@eop_store, ⟨@eop_makeSlice, @getD_enc⟩⟩, ⟨@getD_enc0, ⟨@map_app, @eop_boxE⟩⟩⟩, ⟨⟨@guardV_n, ⟨@fillA_nil, @fillA_cons⟩⟩, ⟨@fillP_some, ⟨@eqA.eq_1, @eqA.eq_2⟩⟩⟩⟩⟩
theorem ev29 : ((((type_of% @eqA.eq_3) ∧ (type_of% @eqA.eq_4)) ∧ ((type_of% @intsA.eq_1) ∧ ((type_of% @intsA.eq_2) ∧ (type_of% @intsA.eq_3)))) ∧ (((type_of% @List.cons.injEq.{0}) ∧ ((type_of% @allU8_enc) ∧ (type_of% @Bool.true_or))) ∧ ((type_of% @En_getD) ∧ ((type_of% @En_set) ∧ (type_of% @look_cons))))) ∧ ((((type_of% @look_nil) ∧ ((type_of% @look_enm_cons) ∧ (type_of% @look_enm_nil))) ∧ ((type_of% @sliceA_str) ∧ ((type_of% @sliceA_dl) ∧ (type_of% @sliceA_sl)))) ∧ (((type_of% @sliceT.eq_1) ∧ ((type_of% @sliceT.eq_2) ∧ (type_of% @sliceD.eq_1))) ∧ ((type_of% @sliceD.eq_2) ∧ ((type_of% @sliceS.eq_1) ∧ (type_of% @sliceS.eq_2))))) :=
 ⟨⟨⟨⟨@eqA.eq_3, @eqA.eq_4⟩, ⟨@intsA.eq_1, ⟨@intsA.eq_2, @intsA.eq_3⟩⟩⟩, ⟨⟨@List.cons.injEq.{0}, ⟨@allU8_enc, @Bool.true_or⟩⟩, ⟨@En_getD, ⟨@En_set, @look_cons⟩⟩⟩⟩, ⟨⟨⟨@look_nil, ⟨@look_enm_cons, @look_enm_nil⟩⟩, ⟨@sliceA_str, ⟨@sliceA_dl, @sliceA_sl⟩⟩⟩, ⟨⟨@sliceT.eq_1, ⟨@sliceT.eq_2, @sliceD.eq_1⟩⟩, ⟨@sliceD.eq_2, ⟨@sliceS.eq_1, @sliceS.eq_2⟩⟩⟩⟩⟩
theorem EVA : ((((type_of% ev0) ∧ ((type_of% ev1) ∧ (type_of% ev2))) ∧ (((type_of% ev3) ∧ (type_of% ev4)) ∧ ((type_of% ev5) ∧ (type_of% ev6)))) ∧ ((((type_of% ev7) ∧ (type_of% ev8)) ∧ ((type_of% ev9) ∧ (type_of% ev10))) ∧ (((type_of% ev11) ∧ (type_of% ev12)) ∧ ((type_of% ev13) ∧ (type_of% ev14))))) ∧ ((((type_of% ev15) ∧ ((type_of% ev16) ∧ (type_of% ev17))) ∧ (((type_of% ev18) ∧ (type_of% ev19)) ∧ ((type_of% ev20) ∧ (type_of% ev21)))) ∧ ((((type_of% ev22) ∧ (type_of% ev23)) ∧ ((type_of% ev24) ∧ (type_of% ev25))) ∧ (((type_of% ev26) ∧ (type_of% ev27)) ∧ ((type_of% ev28) ∧ (type_of% ev29))))) :=
 ⟨⟨⟨⟨ev0, ⟨ev1, ev2⟩⟩, ⟨⟨ev3, ev4⟩, ⟨ev5, ev6⟩⟩⟩, ⟨⟨⟨ev7, ev8⟩, ⟨ev9, ev10⟩⟩, ⟨⟨ev11, ev12⟩, ⟨ev13, ev14⟩⟩⟩⟩, ⟨⟨⟨ev15, ⟨ev16, ev17⟩⟩, ⟨⟨ev18, ev19⟩, ⟨ev20, ev21⟩⟩⟩, ⟨⟨⟨ev22, ev23⟩, ⟨ev24, ev25⟩⟩, ⟨⟨ev26, ev27⟩, ⟨ev28, ev29⟩⟩⟩⟩⟩
end Go.Av
end
