/- The types of this seat, for the pure evaluator: printed by gen_ty.py. -/
import Derived.Test.YtpdifmlbhkimlaaGreatDoorPwT
import Derived.Test.YtpdifmlbhkimlaaGreatDoorProg
import Derived.KernelRfl
set_option linter.unusedVariables false
namespace Go.Proofs.YtpdifmlbhkimlaaGreatDoor.Pv
open Go

def ty : Nat → Ty
  | 1 => ⟨.func, 1, 8, [.nilf]⟩
  | 2 => ⟨.int .i64, 1, 8, [.int .i64 0]⟩
  | 3 => ⟨.int .i64, 1, 8, [.int .i64 0]⟩
  | 4 => ⟨.bool, 1, 1, [.bool false]⟩
  | 5 => ⟨.int .u8, 1, 1, [.int .u8 0]⟩
  | 6 => ⟨.int .u8, 1, 1, [.int .u8 0]⟩
  | 7 => ⟨.struct [(0, 2), (1, 3), (2, 4), (3, 6)], 4, 24, [.int .i64 0, .int .i64 0, .bool false, .int .u8 0]⟩
  | 8 => ⟨.struct [(0, 2), (1, 3), (2, 4), (3, 6)], 4, 24, [.int .i64 0, .int .i64 0, .bool false, .int .u8 0]⟩
  | 9 => ⟨.str, 1, 16, [.str []]⟩
  | 10 => ⟨.str, 1, 16, [.str []]⟩
  | 11 => ⟨.str, 1, 16, [.str []]⟩
  | 12 => ⟨.int .u64, 1, 8, [.int .u64 0]⟩
  | 13 => ⟨.struct [(0, 9), (1, 12)], 2, 24, [.str [], .int .u64 0]⟩
  | 14 => ⟨.struct [(0, 9), (1, 12)], 2, 24, [.str [], .int .u64 0]⟩
  | 15 => ⟨.ptr 139, 1, 8, [.nilp]⟩
  | 16 => ⟨.ptr 142, 1, 8, [.nilp]⟩
  | 17 => ⟨.ptr 151, 1, 8, [.nilp]⟩
  | 18 => ⟨.struct [(0, 17)], 1, 8, [.nilp]⟩
  | 19 => ⟨.struct [(0, 17)], 1, 8, [.nilp]⟩
  | 20 => ⟨.iface, 1, 16, [.nili]⟩
  | 21 => ⟨.int .i32, 1, 4, [.int .i32 0]⟩
  | 22 => ⟨.slice 34, 1, 24, [.nils 34 4]⟩
  | 23 => ⟨.slice 3, 1, 24, [.nils 3 1]⟩
  | 24 => ⟨.func, 1, 8, [.nilf]⟩
  | 25 => ⟨.func, 1, 8, [.nilf]⟩
  | 26 => ⟨.func, 1, 8, [.nilf]⟩
  | 27 => ⟨.slice 29, 1, 24, [.nils 29 8]⟩
  | 28 => ⟨.struct [(0, 3), (1, 9), (2, 2), (3, 2), (4, 3), (5, 3), (6, 9), (7, 27)], 8, 96, [.int .i64 0, .str [], .int .i64 0, .int .i64 0, .int .i64 0, .int .i64 0, .str [], .nils 29 8]⟩
  | 29 => ⟨.struct [(0, 3), (1, 9), (2, 2), (3, 2), (4, 3), (5, 3), (6, 9), (7, 27)], 8, 96, [.int .i64 0, .str [], .int .i64 0, .int .i64 0, .int .i64 0, .int .i64 0, .str [], .nils 29 8]⟩
  | 31 => ⟨.func, 1, 8, [.nilf]⟩
  | 32 => ⟨.func, 1, 8, [.nilf]⟩
  | 33 => ⟨.struct [(0, 23), (1, 3), (2, 3), (3, 9)], 4, 56, [.nils 3 1, .int .i64 0, .int .i64 0, .str []]⟩
  | 34 => ⟨.struct [(0, 23), (1, 3), (2, 3), (3, 9)], 4, 56, [.nils 3 1, .int .i64 0, .int .i64 0, .str []]⟩
  | 35 => ⟨.func, 1, 8, [.nilf]⟩
  | 36 => ⟨.slice 53, 1, 24, [.nils 53 5]⟩
  | 38 => ⟨.func, 1, 8, [.nilf]⟩
  | 39 => ⟨.func, 1, 8, [.nilf]⟩
  | 40 => ⟨.func, 1, 8, [.nilf]⟩
  | 42 => ⟨.func, 1, 8, [.nilf]⟩
  | 43 => ⟨.func, 1, 8, [.nilf]⟩
  | 44 => ⟨.func, 1, 8, [.nilf]⟩
  | 45 => ⟨.arr 12 3, 12, 96, [.int .i64 0, .int .i64 0, .int .i64 0, .int .i64 0, .int .i64 0, .int .i64 0, .int .i64 0, .int .i64 0, .int .i64 0, .int .i64 0, .int .i64 0, .int .i64 0]⟩
  | 46 => ⟨.func, 1, 8, [.nilf]⟩
  | 47 => ⟨.func, 1, 8, [.nilf]⟩
  | 48 => ⟨.func, 1, 8, [.nilf]⟩
  | 49 => ⟨.func, 1, 8, [.nilf]⟩
  | 50 => ⟨.func, 1, 8, [.nilf]⟩
  | 51 => ⟨.int .u64, 1, 8, [.int .u64 0]⟩
  | 52 => ⟨.struct [(0, 3), (1, 9), (2, 51), (3, 3), (4, 9)], 5, 56, [.int .i64 0, .str [], .int .u64 0, .int .i64 0, .str []]⟩
  | 53 => ⟨.struct [(0, 3), (1, 9), (2, 51), (3, 3), (4, 9)], 5, 56, [.int .i64 0, .str [], .int .u64 0, .int .i64 0, .str []]⟩
  | 55 => ⟨.func, 1, 8, [.nilf]⟩
  | 56 => ⟨.slice 5, 1, 24, [.nils 5 1]⟩
  | 58 => ⟨.func, 1, 8, [.nilf]⟩
  | 59 => ⟨.ptr 61, 1, 8, [.nilp]⟩
  | 60 => ⟨.struct [(0, 36), (1, 3), (2, 3), (3, 3), (4, 3), (5, 3)], 6, 64, [.nils 53 5, .int .i64 0, .int .i64 0, .int .i64 0, .int .i64 0, .int .i64 0]⟩
  | 61 => ⟨.struct [(0, 36), (1, 3), (2, 3), (3, 3), (4, 3), (5, 3)], 6, 64, [.nils 53 5, .int .i64 0, .int .i64 0, .int .i64 0, .int .i64 0, .int .i64 0]⟩
  | 62 => ⟨.func, 1, 8, [.nilf]⟩
  | 63 => ⟨.func, 1, 8, [.nilf]⟩
  | 64 => ⟨.func, 1, 8, [.nilf]⟩
  | 65 => ⟨.func, 1, 8, [.nilf]⟩
  | 66 => ⟨.func, 1, 8, [.nilf]⟩
  | 67 => ⟨.func, 1, 8, [.nilf]⟩
  | 68 => ⟨.func, 1, 8, [.nilf]⟩
  | 69 => ⟨.cpx .f64, 1, 16, [.cpx .f64 0 0]⟩
  | 70 => ⟨.func, 1, 8, [.nilf]⟩
  | 71 => ⟨.flt .f64, 1, 8, [.flt .f64 0]⟩
  | 72 => ⟨.slice 23, 1, 24, [.nils 23 1]⟩
  | 73 => ⟨.func, 1, 8, [.nilf]⟩
  | 74 => ⟨.func, 1, 8, [.nilf]⟩
  | 75 => ⟨.func, 1, 8, [.nilf]⟩
  | 77 => ⟨.func, 1, 8, [.nilf]⟩
  | 78 => ⟨.func, 1, 8, [.nilf]⟩
  | 79 => ⟨.func, 1, 8, [.nilf]⟩
  | 81 => ⟨.func, 1, 8, [.nilf]⟩
  | 82 => ⟨.func, 1, 8, [.nilf]⟩
  | 83 => ⟨.func, 1, 8, [.nilf]⟩
  | 84 => ⟨.func, 1, 8, [.nilf]⟩
  | 85 => ⟨.func, 1, 8, [.nilf]⟩
  | 86 => ⟨.func, 1, 8, [.nilf]⟩
  | 87 => ⟨.func, 1, 8, [.nilf]⟩
  | 88 => ⟨.func, 1, 8, [.nilf]⟩
  | 89 => ⟨.struct [(0, 40), (1, 40), (2, 88), (3, 3), (4, 4)], 5, 40, [.nilf, .nilf, .nilf, .int .i64 0, .bool false]⟩
  | 90 => ⟨.struct [(0, 40), (1, 40), (2, 88), (3, 3), (4, 4)], 5, 40, [.nilf, .nilf, .nilf, .int .i64 0, .bool false]⟩
  | 92 => ⟨.func, 1, 8, [.nilf]⟩
  | 94 => ⟨.func, 1, 8, [.nilf]⟩
  | 95 => ⟨.func, 1, 8, [.nilf]⟩
  | 96 => ⟨.func, 1, 8, [.nilf]⟩
  | 97 => ⟨.func, 1, 8, [.nilf]⟩
  | 98 => ⟨.func, 1, 8, [.nilf]⟩
  | 99 => ⟨.func, 1, 8, [.nilf]⟩
  | 100 => ⟨.func, 1, 8, [.nilf]⟩
  | 101 => ⟨.func, 1, 8, [.nilf]⟩
  | 102 => ⟨.func, 1, 8, [.nilf]⟩
  | 103 => ⟨.func, 1, 8, [.nilf]⟩
  | 104 => ⟨.func, 1, 8, [.nilf]⟩
  | 105 => ⟨.func, 1, 8, [.nilf]⟩
  | 106 => ⟨.slice 9, 1, 24, [.nils 9 1]⟩
  | 107 => ⟨.func, 1, 8, [.nilf]⟩
  | 108 => ⟨.func, 1, 8, [.nilf]⟩
  | 109 => ⟨.func, 1, 8, [.nilf]⟩
  | 111 => ⟨.func, 1, 8, [.nilf]⟩
  | 112 => ⟨.func, 1, 8, [.nilf]⟩
  | 113 => ⟨.func, 1, 8, [.nilf]⟩
  | 114 => ⟨.func, 1, 8, [.nilf]⟩
  | 115 => ⟨.func, 1, 8, [.nilf]⟩
  | 116 => ⟨.func, 1, 8, [.nilf]⟩
  | 117 => ⟨.func, 1, 8, [.nilf]⟩
  | 119 => ⟨.func, 1, 8, [.nilf]⟩
  | 120 => ⟨.func, 1, 8, [.nilf]⟩
  | 121 => ⟨.func, 1, 8, [.nilf]⟩
  | 122 => ⟨.int .u64, 1, 8, [.int .u64 0]⟩
  | 123 => ⟨.func, 1, 8, [.nilf]⟩
  | 124 => ⟨.func, 1, 8, [.nilf]⟩
  | 125 => ⟨.func, 1, 8, [.nilf]⟩
  | 126 => ⟨.func, 1, 8, [.nilf]⟩
  | 127 => ⟨.func, 1, 8, [.nilf]⟩
  | 128 => ⟨.arr 20 5, 20, 20, [.int .u8 0, .int .u8 0, .int .u8 0, .int .u8 0, .int .u8 0, .int .u8 0, .int .u8 0, .int .u8 0, .int .u8 0, .int .u8 0, .int .u8 0, .int .u8 0, .int .u8 0, .int .u8 0, .int .u8 0, .int .u8 0, .int .u8 0, .int .u8 0, .int .u8 0, .int .u8 0]⟩
  | 129 => ⟨.int .u32, 1, 4, [.int .u32 0]⟩
  | 131 => ⟨.func, 1, 8, [.nilf]⟩
  | 133 => ⟨.func, 1, 8, [.nilf]⟩
  | 134 => ⟨.arr 256 5, 256, 256, [.int .u8 0, .int .u8 0, .int .u8 0, .int .u8 0, .int .u8 0, .int .u8 0, .int .u8 0, .int .u8 0, .int .u8 0, .int .u8 0, .int .u8 0, .int .u8 0, .int .u8 0, .int .u8 0, .int .u8 0, .int .u8 0, .int .u8 0, .int .u8 0, .int .u8 0, .int .u8 0, .int .u8 0, .int .u8 0, .int .u8 0, .int .u8 0, .int .u8 0, .int .u8 0, .int .u8 0, .int .u8 0, .int .u8 0, .int .u8 0, .int .u8 0, .int .u8 0, .int .u8 0, .int .u8 0, .int .u8 0, .int .u8 0, .int .u8 0, .int .u8 0, .int .u8 0, .int .u8 0, .int .u8 0, .int .u8 0, .int .u8 0, .int .u8 0, .int .u8 0, .int .u8 0, .int .u8 0, .int .u8 0, .int .u8 0, .int .u8 0, .int .u8 0, .int .u8 0, .int .u8 0, .int .u8 0, .int .u8 0, .int .u8 0, .int .u8 0, .int .u8 0, .int .u8 0, .int .u8 0, .int .u8 0, .int .u8 0, .int .u8 0, .int .u8 0, .int .u8 0, .int .u8 0, .int .u8 0, .int .u8 0, .int .u8 0, .int .u8 0, .int .u8 0, .int .u8 0, .int .u8 0, .int .u8 0, .int .u8 0, .int .u8 0, .int .u8 0, .int .u8 0, .int .u8 0, .int .u8 0, .int .u8 0, .int .u8 0, .int .u8 0, .int .u8 0, .int .u8 0, .int .u8 0, .int .u8 0, .int .u8 0, .int .u8 0, .int .u8 0, .int .u8 0, .int .u8 0, .int .u8 0, .int .u8 0, .int .u8 0, .int .u8 0, .int .u8 0, .int .u8 0, .int .u8 0, .int .u8 0, .int .u8 0, .int .u8 0, .int .u8 0, .int .u8 0, .int .u8 0, .int .u8 0, .int .u8 0, .int .u8 0, .int .u8 0, .int .u8 0, .int .u8 0, .int .u8 0, .int .u8 0, .int .u8 0, .int .u8 0, .int .u8 0, .int .u8 0, .int .u8 0, .int .u8 0, .int .u8 0, .int .u8 0, .int .u8 0, .int .u8 0, .int .u8 0, .int .u8 0, .int .u8 0, .int .u8 0, .int .u8 0, .int .u8 0, .int .u8 0, .int .u8 0, .int .u8 0, .int .u8 0, .int .u8 0, .int .u8 0, .int .u8 0, .int .u8 0, .int .u8 0, .int .u8 0, .int .u8 0, .int .u8 0, .int .u8 0, .int .u8 0, .int .u8 0, .int .u8 0, .int .u8 0, .int .u8 0, .int .u8 0, .int .u8 0, .int .u8 0, .int .u8 0, .int .u8 0, .int .u8 0, .int .u8 0, .int .u8 0, .int .u8 0, .int .u8 0, .int .u8 0, .int .u8 0, .int .u8 0, .int .u8 0, .int .u8 0, .int .u8 0, .int .u8 0, .int .u8 0, .int .u8 0, .int .u8 0, .int .u8 0, .int .u8 0, .int .u8 0, .int .u8 0, .int .u8 0, .int .u8 0, .int .u8 0, .int .u8 0, .int .u8 0, .int .u8 0, .int .u8 0, .int .u8 0, .int .u8 0, .int .u8 0, .int .u8 0, .int .u8 0, .int .u8 0, .int .u8 0, .int .u8 0, .int .u8 0, .int .u8 0, .int .u8 0, .int .u8 0, .int .u8 0, .int .u8 0, .int .u8 0, .int .u8 0, .int .u8 0, .int .u8 0, .int .u8 0, .int .u8 0, .int .u8 0, .int .u8 0, .int .u8 0, .int .u8 0, .int .u8 0, .int .u8 0, .int .u8 0, .int .u8 0, .int .u8 0, .int .u8 0, .int .u8 0, .int .u8 0, .int .u8 0, .int .u8 0, .int .u8 0, .int .u8 0, .int .u8 0, .int .u8 0, .int .u8 0, .int .u8 0, .int .u8 0, .int .u8 0, .int .u8 0, .int .u8 0, .int .u8 0, .int .u8 0, .int .u8 0, .int .u8 0, .int .u8 0, .int .u8 0, .int .u8 0, .int .u8 0, .int .u8 0, .int .u8 0, .int .u8 0, .int .u8 0, .int .u8 0, .int .u8 0, .int .u8 0, .int .u8 0, .int .u8 0, .int .u8 0, .int .u8 0, .int .u8 0, .int .u8 0, .int .u8 0, .int .u8 0, .int .u8 0, .int .u8 0, .int .u8 0, .int .u8 0, .int .u8 0, .int .u8 0, .int .u8 0, .int .u8 0, .int .u8 0, .int .u8 0, .int .u8 0]⟩
  | 135 => ⟨.struct [(0, 5), (1, 5)], 2, 2, [.int .u8 0, .int .u8 0]⟩
  | 136 => ⟨.struct [(0, 5), (1, 5)], 2, 2, [.int .u8 0, .int .u8 0]⟩
  | 137 => ⟨.arr 16 136, 32, 32, [.int .u8 0, .int .u8 0, .int .u8 0, .int .u8 0, .int .u8 0, .int .u8 0, .int .u8 0, .int .u8 0, .int .u8 0, .int .u8 0, .int .u8 0, .int .u8 0, .int .u8 0, .int .u8 0, .int .u8 0, .int .u8 0, .int .u8 0, .int .u8 0, .int .u8 0, .int .u8 0, .int .u8 0, .int .u8 0, .int .u8 0, .int .u8 0, .int .u8 0, .int .u8 0, .int .u8 0, .int .u8 0, .int .u8 0, .int .u8 0, .int .u8 0, .int .u8 0]⟩
  | 138 => ⟨.struct [(0, 17), (1, 17), (2, 17), (3, 9)], 4, 40, [.nilp, .nilp, .nilp, .str []]⟩
  | 139 => ⟨.struct [(0, 17), (1, 17), (2, 17), (3, 9)], 4, 40, [.nilp, .nilp, .nilp, .str []]⟩
  | 143 => ⟨.func, 1, 8, [.nilf]⟩
  | 144 => ⟨.int .u8, 1, 1, [.int .u8 0]⟩
  | 145 => ⟨.int .u8, 1, 1, [.int .u8 0]⟩
  | 146 => ⟨.func, 1, 8, [.nilf]⟩
  | 147 => ⟨.ptr 5, 1, 8, [.nilp]⟩
  | 148 => ⟨.int .i32, 1, 4, [.int .i32 0]⟩
  | 149 => ⟨.int .i32, 1, 4, [.int .i32 0]⟩
  | 150 => ⟨.struct [(0, 12), (1, 12), (2, 129), (3, 144), (4, 5), (5, 5), (6, 145), (7, 146), (8, 147), (9, 148), (10, 149)], 11, 48, [.int .u64 0, .int .u64 0, .int .u32 0, .int .u8 0, .int .u8 0, .int .u8 0, .int .u8 0, .nilf, .nilp, .int .i32 0, .int .i32 0]⟩
  | 151 => ⟨.struct [(0, 12), (1, 12), (2, 129), (3, 144), (4, 5), (5, 5), (6, 145), (7, 146), (8, 147), (9, 148), (10, 149)], 11, 48, [.int .u64 0, .int .u64 0, .int .u32 0, .int .u8 0, .int .u8 0, .int .u8 0, .int .u8 0, .nilf, .nilp, .int .i32 0, .int .i32 0]⟩
  | _ => ⟨.other, 0, 0, []⟩

theorem ty_far (t : Nat) (h : 153 ≤ t) : ty t = ⟨.other, 0, 0, []⟩ := by
  obtain ⟨k, rfl⟩ : ∃ k, t = k + 153 := ⟨t - 153, by omega⟩
  rfl
theorem ty_check : ((List.range 153).all fun t => tyCheck Tryz.prog ty t) = true := by kernel_rfl
theorem ty_tab : TyTab Tryz.prog ty := TyTab.of 153 ty_far ty_check
theorem mixed : Tryz.prog.follows .mixedOrders = true := by kernel_rfl

end Go.Proofs.YtpdifmlbhkimlaaGreatDoor.Pv
