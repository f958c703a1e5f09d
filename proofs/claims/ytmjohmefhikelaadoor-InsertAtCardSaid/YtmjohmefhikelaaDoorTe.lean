/- The rows of `ty`, to rewrite with: printed by gen_tye.py. -/
import Derived.Test.YtmjohmefhikelaaDoorTy
set_option linter.unusedVariables false
set_option maxRecDepth 100000
namespace Go.Proofs.YtmjohmefhikelaaDoor.Pv
open Go

theorem tyE :
    ty 1 = ⟨.func, 1, 8, [.nilf]⟩ ∧
    ty 2 = ⟨.int .i64, 1, 8, [.int .i64 0]⟩ ∧
    ty 3 = ⟨.int .i64, 1, 8, [.int .i64 0]⟩ ∧
    ty 4 = ⟨.bool, 1, 1, [.bool false]⟩ ∧
    ty 5 = ⟨.int .u8, 1, 1, [.int .u8 0]⟩ ∧
    ty 6 = ⟨.int .u8, 1, 1, [.int .u8 0]⟩ ∧
    ty 7 = ⟨.struct [(0, 2), (1, 3), (2, 4), (3, 6)], 4, 24, [.int .i64 0, .int .i64 0, .bool false, .int .u8 0]⟩ ∧
    ty 8 = ⟨.struct [(0, 2), (1, 3), (2, 4), (3, 6)], 4, 24, [.int .i64 0, .int .i64 0, .bool false, .int .u8 0]⟩ ∧
    ty 9 = ⟨.str, 1, 16, [.str []]⟩ ∧
    ty 10 = ⟨.str, 1, 16, [.str []]⟩ ∧
    ty 11 = ⟨.str, 1, 16, [.str []]⟩ ∧
    ty 12 = ⟨.int .u64, 1, 8, [.int .u64 0]⟩ ∧
    ty 13 = ⟨.struct [(0, 9), (1, 12)], 2, 24, [.str [], .int .u64 0]⟩ ∧
    ty 14 = ⟨.struct [(0, 9), (1, 12)], 2, 24, [.str [], .int .u64 0]⟩ ∧
    ty 15 = ⟨.ptr 95, 1, 8, [.nilp]⟩ ∧
    ty 16 = ⟨.ptr 98, 1, 8, [.nilp]⟩ ∧
    ty 17 = ⟨.ptr 105, 1, 8, [.nilp]⟩ ∧
    ty 18 = ⟨.struct [(0, 17)], 1, 8, [.nilp]⟩ ∧
    ty 19 = ⟨.struct [(0, 17)], 1, 8, [.nilp]⟩ ∧
    ty 20 = ⟨.iface, 1, 16, [.nili]⟩ ∧
    ty 21 = ⟨.int .i32, 1, 4, [.int .i32 0]⟩ ∧
    ty 22 = ⟨.func, 1, 8, [.nilf]⟩ ∧
    ty 24 = ⟨.func, 1, 8, [.nilf]⟩ ∧
    ty 25 = ⟨.func, 1, 8, [.nilf]⟩ ∧
    ty 26 = ⟨.slice 32, 1, 24, [.nils 32 3]⟩ ∧
    ty 27 = ⟨.func, 1, 8, [.nilf]⟩ ∧
    ty 28 = ⟨.int .i64, 1, 8, [.int .i64 0]⟩ ∧
    ty 30 = ⟨.func, 1, 8, [.nilf]⟩ ∧
    ty 31 = ⟨.struct [(0, 9), (1, 9), (2, 9)], 3, 48, [.str [], .str [], .str []]⟩ ∧
    ty 32 = ⟨.struct [(0, 9), (1, 9), (2, 9)], 3, 48, [.str [], .str [], .str []]⟩ ∧
    ty 33 = ⟨.func, 1, 8, [.nilf]⟩ ∧
    ty 34 = ⟨.func, 1, 8, [.nilf]⟩ ∧
    ty 35 = ⟨.ptr 38, 1, 8, [.nilp]⟩ ∧
    ty 36 = ⟨.slice 5, 1, 24, [.nils 5 1]⟩ ∧
    ty 37 = ⟨.struct [(0, 35), (1, 36)], 2, 32, [.nilp, .nils 5 1]⟩ ∧
    ty 38 = ⟨.struct [(0, 35), (1, 36)], 2, 32, [.nilp, .nils 5 1]⟩ ∧
    ty 39 = ⟨.func, 1, 8, [.nilf]⟩ ∧
    ty 40 = ⟨.slice 9, 1, 24, [.nils 9 1]⟩ ∧
    ty 41 = ⟨.func, 1, 8, [.nilf]⟩ ∧
    ty 42 = ⟨.func, 1, 8, [.nilf]⟩ ∧
    ty 43 = ⟨.func, 1, 8, [.nilf]⟩ ∧
    ty 44 = ⟨.func, 1, 8, [.nilf]⟩ ∧
    ty 45 = ⟨.func, 1, 8, [.nilf]⟩ ∧
    ty 46 = ⟨.func, 1, 8, [.nilf]⟩ ∧
    ty 47 = ⟨.iface, 1, 16, [.nili]⟩ ∧
    ty 48 = ⟨.iface, 1, 16, [.nili]⟩ ∧
    ty 50 = ⟨.func, 1, 8, [.nilf]⟩ ∧
    ty 51 = ⟨.func, 1, 8, [.nilf]⟩ ∧
    ty 52 = ⟨.func, 1, 8, [.nilf]⟩ ∧
    ty 53 = ⟨.func, 1, 8, [.nilf]⟩ ∧
    ty 54 = ⟨.func, 1, 8, [.nilf]⟩ ∧
    ty 55 = ⟨.map 9 3, 1, 8, [.nilm]⟩ ∧
    ty 57 = ⟨.func, 1, 8, [.nilf]⟩ ∧
    ty 59 = ⟨.func, 1, 8, [.nilf]⟩ ∧
    ty 60 = ⟨.func, 1, 8, [.nilf]⟩ ∧
    ty 61 = ⟨.func, 1, 8, [.nilf]⟩ ∧
    ty 62 = ⟨.func, 1, 8, [.nilf]⟩ ∧
    ty 63 = ⟨.func, 1, 8, [.nilf]⟩ ∧
    ty 64 = ⟨.ptr 5, 1, 8, [.nilp]⟩ ∧
    ty 65 = ⟨.struct [(0, 38), (2, 4)], 3, 40, [.nilp, .nils 5 1, .bool false]⟩ ∧
    ty 66 = ⟨.struct [(0, 38), (2, 4)], 3, 40, [.nilp, .nils 5 1, .bool false]⟩ ∧
    ty 67 = ⟨.func, 1, 8, [.nilf]⟩ ∧
    ty 69 = ⟨.func, 1, 8, [.nilf]⟩ ∧
    ty 70 = ⟨.func, 1, 8, [.nilf]⟩ ∧
    ty 71 = ⟨.arr 256 4, 256, 256, [.bool false, .bool false, .bool false, .bool false, .bool false, .bool false, .bool false, .bool false, .bool false, .bool false, .bool false, .bool false, .bool false, .bool false, .bool false, .bool false, .bool false, .bool false, .bool false, .bool false, .bool false, .bool false, .bool false, .bool false, .bool false, .bool false, .bool false, .bool false, .bool false, .bool false, .bool false, .bool false, .bool false, .bool false, .bool false, .bool false, .bool false, .bool false, .bool false, .bool false, .bool false, .bool false, .bool false, .bool false, .bool false, .bool false, .bool false, .bool false, .bool false, .bool false, .bool false, .bool false, .bool false, .bool false, .bool false, .bool false, .bool false, .bool false, .bool false, .bool false, .bool false, .bool false, .bool false, .bool false, .bool false, .bool false, .bool false, .bool false, .bool false, .bool false, .bool false, .bool false, .bool false, .bool false, .bool false, .bool false, .bool false, .bool false, .bool false, .bool false, .bool false, .bool false, .bool false, .bool false, .bool false, .bool false, .bool false, .bool false, .bool false, .bool false, .bool false, .bool false, .bool false, .bool false, .bool false, .bool false, .bool false, .bool false, .bool false, .bool false, .bool false, .bool false, .bool false, .bool false, .bool false, .bool false, .bool false, .bool false, .bool false, .bool false, .bool false, .bool false, .bool false, .bool false, .bool false, .bool false, .bool false, .bool false, .bool false, .bool false, .bool false, .bool false, .bool false, .bool false, .bool false, .bool false, .bool false, .bool false, .bool false, .bool false, .bool false, .bool false, .bool false, .bool false, .bool false, .bool false, .bool false, .bool false, .bool false, .bool false, .bool false, .bool false, .bool false, .bool false, .bool false, .bool false, .bool false, .bool false, .bool false, .bool false, .bool false, .bool false, .bool false, .bool false, .bool false, .bool false, .bool false, .bool false, .bool false, .bool false, .bool false, .bool false, .bool false, .bool false, .bool false, .bool false, .bool false, .bool false, .bool false, .bool false, .bool false, .bool false, .bool false, .bool false, .bool false, .bool false, .bool false, .bool false, .bool false, .bool false, .bool false, .bool false, .bool false, .bool false, .bool false, .bool false, .bool false, .bool false, .bool false, .bool false, .bool false, .bool false, .bool false, .bool false, .bool false, .bool false, .bool false, .bool false, .bool false, .bool false, .bool false, .bool false, .bool false, .bool false, .bool false, .bool false, .bool false, .bool false, .bool false, .bool false, .bool false, .bool false, .bool false, .bool false, .bool false, .bool false, .bool false, .bool false, .bool false, .bool false, .bool false, .bool false, .bool false, .bool false, .bool false, .bool false, .bool false, .bool false, .bool false, .bool false, .bool false, .bool false, .bool false, .bool false, .bool false, .bool false, .bool false, .bool false, .bool false, .bool false, .bool false, .bool false, .bool false, .bool false, .bool false, .bool false, .bool false, .bool false, .bool false, .bool false, .bool false, .bool false, .bool false, .bool false, .bool false, .bool false]⟩ ∧
    ty 72 = ⟨.arr 256 4, 256, 256, [.bool false, .bool false, .bool false, .bool false, .bool false, .bool false, .bool false, .bool false, .bool false, .bool false, .bool false, .bool false, .bool false, .bool false, .bool false, .bool false, .bool false, .bool false, .bool false, .bool false, .bool false, .bool false, .bool false, .bool false, .bool false, .bool false, .bool false, .bool false, .bool false, .bool false, .bool false, .bool false, .bool false, .bool false, .bool false, .bool false, .bool false, .bool false, .bool false, .bool false, .bool false, .bool false, .bool false, .bool false, .bool false, .bool false, .bool false, .bool false, .bool false, .bool false, .bool false, .bool false, .bool false, .bool false, .bool false, .bool false, .bool false, .bool false, .bool false, .bool false, .bool false, .bool false, .bool false, .bool false, .bool false, .bool false, .bool false, .bool false, .bool false, .bool false, .bool false, .bool false, .bool false, .bool false, .bool false, .bool false, .bool false, .bool false, .bool false, .bool false, .bool false, .bool false, .bool false, .bool false, .bool false, .bool false, .bool false, .bool false, .bool false, .bool false, .bool false, .bool false, .bool false, .bool false, .bool false, .bool false, .bool false, .bool false, .bool false, .bool false, .bool false, .bool false, .bool false, .bool false, .bool false, .bool false, .bool false, .bool false, .bool false, .bool false, .bool false, .bool false, .bool false, .bool false, .bool false, .bool false, .bool false, .bool false, .bool false, .bool false, .bool false, .bool false, .bool false, .bool false, .bool false, .bool false, .bool false, .bool false, .bool false, .bool false, .bool false, .bool false, .bool false, .bool false, .bool false, .bool false, .bool false, .bool false, .bool false, .bool false, .bool false, .bool false, .bool false, .bool false, .bool false, .bool false, .bool false, .bool false, .bool false, .bool false, .bool false, .bool false, .bool false, .bool false, .bool false, .bool false, .bool false, .bool false, .bool false, .bool false, .bool false, .bool false, .bool false, .bool false, .bool false, .bool false, .bool false, .bool false, .bool false, .bool false, .bool false, .bool false, .bool false, .bool false, .bool false, .bool false, .bool false, .bool false, .bool false, .bool false, .bool false, .bool false, .bool false, .bool false, .bool false, .bool false, .bool false, .bool false, .bool false, .bool false, .bool false, .bool false, .bool false, .bool false, .bool false, .bool false, .bool false, .bool false, .bool false, .bool false, .bool false, .bool false, .bool false, .bool false, .bool false, .bool false, .bool false, .bool false, .bool false, .bool false, .bool false, .bool false, .bool false, .bool false, .bool false, .bool false, .bool false, .bool false, .bool false, .bool false, .bool false, .bool false, .bool false, .bool false, .bool false, .bool false, .bool false, .bool false, .bool false, .bool false, .bool false, .bool false, .bool false, .bool false, .bool false, .bool false, .bool false, .bool false, .bool false, .bool false, .bool false, .bool false, .bool false, .bool false, .bool false, .bool false, .bool false, .bool false, .bool false, .bool false, .bool false, .bool false, .bool false, .bool false, .bool false, .bool false]⟩ ∧
    ty 74 = ⟨.func, 1, 8, [.nilf]⟩ ∧
    ty 75 = ⟨.func, 1, 8, [.nilf]⟩ ∧
    ty 76 = ⟨.ptr 72, 1, 8, [.nilp]⟩ ∧
    ty 77 = ⟨.ptr 66, 1, 8, [.nilp]⟩ ∧
    ty 78 = ⟨.func, 1, 8, [.nilf]⟩ ∧
    ty 79 = ⟨.func, 1, 8, [.nilf]⟩ ∧
    ty 80 = ⟨.int .u64, 1, 8, [.int .u64 0]⟩ ∧
    ty 81 = ⟨.func, 1, 8, [.nilf]⟩ ∧
    ty 83 = ⟨.func, 1, 8, [.nilf]⟩ ∧
    ty 84 = ⟨.func, 1, 8, [.nilf]⟩ ∧
    ty 85 = ⟨.int .u32, 1, 4, [.int .u32 0]⟩ ∧
    ty 87 = ⟨.func, 1, 8, [.nilf]⟩ ∧
    ty 88 = ⟨.func, 1, 8, [.nilf]⟩ ∧
    ty 89 = ⟨.arr 256 5, 256, 256, [.int .u8 0, .int .u8 0, .int .u8 0, .int .u8 0, .int .u8 0, .int .u8 0, .int .u8 0, .int .u8 0, .int .u8 0, .int .u8 0, .int .u8 0, .int .u8 0, .int .u8 0, .int .u8 0, .int .u8 0, .int .u8 0, .int .u8 0, .int .u8 0, .int .u8 0, .int .u8 0, .int .u8 0, .int .u8 0, .int .u8 0, .int .u8 0, .int .u8 0, .int .u8 0, .int .u8 0, .int .u8 0, .int .u8 0, .int .u8 0, .int .u8 0, .int .u8 0, .int .u8 0, .int .u8 0, .int .u8 0, .int .u8 0, .int .u8 0, .int .u8 0, .int .u8 0, .int .u8 0, .int .u8 0, .int .u8 0, .int .u8 0, .int .u8 0, .int .u8 0, .int .u8 0, .int .u8 0, .int .u8 0, .int .u8 0, .int .u8 0, .int .u8 0, .int .u8 0, .int .u8 0, .int .u8 0, .int .u8 0, .int .u8 0, .int .u8 0, .int .u8 0, .int .u8 0, .int .u8 0, .int .u8 0, .int .u8 0, .int .u8 0, .int .u8 0, .int .u8 0, .int .u8 0, .int .u8 0, .int .u8 0, .int .u8 0, .int .u8 0, .int .u8 0, .int .u8 0, .int .u8 0, .int .u8 0, .int .u8 0, .int .u8 0, .int .u8 0, .int .u8 0, .int .u8 0, .int .u8 0, .int .u8 0, .int .u8 0, .int .u8 0, .int .u8 0, .int .u8 0, .int .u8 0, .int .u8 0, .int .u8 0, .int .u8 0, .int .u8 0, .int .u8 0, .int .u8 0, .int .u8 0, .int .u8 0, .int .u8 0, .int .u8 0, .int .u8 0, .int .u8 0, .int .u8 0, .int .u8 0, .int .u8 0, .int .u8 0, .int .u8 0, .int .u8 0, .int .u8 0, .int .u8 0, .int .u8 0, .int .u8 0, .int .u8 0, .int .u8 0, .int .u8 0, .int .u8 0, .int .u8 0, .int .u8 0, .int .u8 0, .int .u8 0, .int .u8 0, .int .u8 0, .int .u8 0, .int .u8 0, .int .u8 0, .int .u8 0, .int .u8 0, .int .u8 0, .int .u8 0, .int .u8 0, .int .u8 0, .int .u8 0, .int .u8 0, .int .u8 0, .int .u8 0, .int .u8 0, .int .u8 0, .int .u8 0, .int .u8 0, .int .u8 0, .int .u8 0, .int .u8 0, .int .u8 0, .int .u8 0, .int .u8 0, .int .u8 0, .int .u8 0, .int .u8 0, .int .u8 0, .int .u8 0, .int .u8 0, .int .u8 0, .int .u8 0, .int .u8 0, .int .u8 0, .int .u8 0, .int .u8 0, .int .u8 0, .int .u8 0, .int .u8 0, .int .u8 0, .int .u8 0, .int .u8 0, .int .u8 0, .int .u8 0, .int .u8 0, .int .u8 0, .int .u8 0, .int .u8 0, .int .u8 0, .int .u8 0, .int .u8 0, .int .u8 0, .int .u8 0, .int .u8 0, .int .u8 0, .int .u8 0, .int .u8 0, .int .u8 0, .int .u8 0, .int .u8 0, .int .u8 0, .int .u8 0, .int .u8 0, .int .u8 0, .int .u8 0, .int .u8 0, .int .u8 0, .int .u8 0, .int .u8 0, .int .u8 0, .int .u8 0, .int .u8 0, .int .u8 0, .int .u8 0, .int .u8 0, .int .u8 0, .int .u8 0, .int .u8 0, .int .u8 0, .int .u8 0, .int .u8 0, .int .u8 0, .int .u8 0, .int .u8 0, .int .u8 0, .int .u8 0, .int .u8 0, .int .u8 0, .int .u8 0, .int .u8 0, .int .u8 0, .int .u8 0, .int .u8 0, .int .u8 0, .int .u8 0, .int .u8 0, .int .u8 0, .int .u8 0, .int .u8 0, .int .u8 0, .int .u8 0, .int .u8 0, .int .u8 0, .int .u8 0, .int .u8 0, .int .u8 0, .int .u8 0, .int .u8 0, .int .u8 0, .int .u8 0, .int .u8 0, .int .u8 0, .int .u8 0, .int .u8 0, .int .u8 0, .int .u8 0, .int .u8 0, .int .u8 0, .int .u8 0, .int .u8 0, .int .u8 0, .int .u8 0, .int .u8 0, .int .u8 0, .int .u8 0, .int .u8 0, .int .u8 0, .int .u8 0, .int .u8 0, .int .u8 0, .int .u8 0, .int .u8 0, .int .u8 0, .int .u8 0, .int .u8 0, .int .u8 0, .int .u8 0, .int .u8 0, .int .u8 0]⟩ ∧
    ty 90 = ⟨.struct [(0, 5), (1, 5)], 2, 2, [.int .u8 0, .int .u8 0]⟩ ∧
    ty 91 = ⟨.struct [(0, 5), (1, 5)], 2, 2, [.int .u8 0, .int .u8 0]⟩ ∧
    ty 92 = ⟨.arr 16 91, 32, 32, [.int .u8 0, .int .u8 0, .int .u8 0, .int .u8 0, .int .u8 0, .int .u8 0, .int .u8 0, .int .u8 0, .int .u8 0, .int .u8 0, .int .u8 0, .int .u8 0, .int .u8 0, .int .u8 0, .int .u8 0, .int .u8 0, .int .u8 0, .int .u8 0, .int .u8 0, .int .u8 0, .int .u8 0, .int .u8 0, .int .u8 0, .int .u8 0, .int .u8 0, .int .u8 0, .int .u8 0, .int .u8 0, .int .u8 0, .int .u8 0, .int .u8 0, .int .u8 0]⟩ ∧
    ty 93 = ⟨.func, 1, 8, [.nilf]⟩ ∧
    ty 94 = ⟨.struct [(0, 17), (1, 17), (2, 17), (3, 9)], 4, 40, [.nilp, .nilp, .nilp, .str []]⟩ ∧
    ty 95 = ⟨.struct [(0, 17), (1, 17), (2, 17), (3, 9)], 4, 40, [.nilp, .nilp, .nilp, .str []]⟩ ∧
    ty 99 = ⟨.int .u8, 1, 1, [.int .u8 0]⟩ ∧
    ty 100 = ⟨.int .u8, 1, 1, [.int .u8 0]⟩ ∧
    ty 101 = ⟨.func, 1, 8, [.nilf]⟩ ∧
    ty 102 = ⟨.int .i32, 1, 4, [.int .i32 0]⟩ ∧
    ty 103 = ⟨.int .i32, 1, 4, [.int .i32 0]⟩ ∧
    ty 104 = ⟨.struct [(0, 12), (1, 12), (2, 85), (3, 99), (4, 5), (5, 5), (6, 100), (7, 101), (8, 64), (9, 102), (10, 103)], 11, 48, [.int .u64 0, .int .u64 0, .int .u32 0, .int .u8 0, .int .u8 0, .int .u8 0, .int .u8 0, .nilf, .nilp, .int .i32 0, .int .i32 0]⟩ ∧
    ty 105 = ⟨.struct [(0, 12), (1, 12), (2, 85), (3, 99), (4, 5), (5, 5), (6, 100), (7, 101), (8, 64), (9, 102), (10, 103)], 11, 48, [.int .u64 0, .int .u64 0, .int .u32 0, .int .u8 0, .int .u8 0, .int .u8 0, .int .u8 0, .nilf, .nilp, .int .i32 0, .int .i32 0]⟩ :=
  ⟨rfl, rfl, rfl, rfl, rfl, rfl, rfl, rfl, rfl, rfl, rfl, rfl, rfl, rfl, rfl, rfl, rfl, rfl, rfl, rfl, rfl, rfl, rfl, rfl, rfl, rfl, rfl, rfl, rfl, rfl, rfl, rfl, rfl, rfl, rfl, rfl, rfl, rfl, rfl, rfl, rfl, rfl, rfl, rfl, rfl, rfl, rfl, rfl, rfl, rfl, rfl, rfl, rfl, rfl, rfl, rfl, rfl, rfl, rfl, rfl, rfl, rfl, rfl, rfl, rfl, rfl, rfl, rfl, rfl, rfl, rfl, rfl, rfl, rfl, rfl, rfl, rfl, rfl, rfl, rfl, rfl, rfl, rfl, rfl, rfl, rfl, rfl, rfl, rfl, rfl, rfl, rfl, rfl⟩
end Go.Proofs.YtmjohmefhikelaaDoor.Pv
