/- The types of this seat, for the pure evaluator: printed by gen_ty.py. -/
import Derived.Test.YtnpobhbpbefciaaDoorPwT
import Derived.Test.YtnpobhbpbefciaaDoorProg
import Derived.KernelRfl
set_option linter.unusedVariables false
namespace Go.Proofs.YtnpobhbpbefciaaDoor.Pv
open Go

def ty : Nat → Ty
  | 1 => ⟨.func, 1, 8, [.nilf]⟩
  | 2 => ⟨.int .i64, 1, 8, [.int .i64 0]⟩
  | 3 => ⟨.int .i64, 1, 8, [.int .i64 0]⟩
  | 4 => ⟨.bool, 1, 1, [.bool false]⟩
  | 5 => ⟨.int .u8, 1, 1, [.int .u8 0]⟩
  | 6 => ⟨.int .u8, 1, 1, [.int .u8 0]⟩
  | 7 => ⟨.struct [(0, 2), (1, 3), (2, 4), (3, 6)], 4, 24, [.int .i64 0, .int .i64 0, .bool false, .int .u8 0]⟩
  | 8 => ⟨.struct [(0, 2), (1, 3), (2, 4), (3, 6)], 4, 24, [.int .i64 0, .int .i64 0, .bool false, .int .u8 0]⟩
  | 9 => ⟨.str, 1, 16, [.str []]⟩
  | 10 => ⟨.str, 1, 16, [.str []]⟩
  | 11 => ⟨.str, 1, 16, [.str []]⟩
  | 12 => ⟨.int .u64, 1, 8, [.int .u64 0]⟩
  | 13 => ⟨.struct [(0, 9), (1, 12)], 2, 24, [.str [], .int .u64 0]⟩
  | 14 => ⟨.struct [(0, 9), (1, 12)], 2, 24, [.str [], .int .u64 0]⟩
  | 15 => ⟨.ptr 88, 1, 8, [.nilp]⟩
  | 16 => ⟨.ptr 91, 1, 8, [.nilp]⟩
  | 17 => ⟨.ptr 100, 1, 8, [.nilp]⟩
  | 18 => ⟨.struct [(0, 17)], 1, 8, [.nilp]⟩
  | 19 => ⟨.struct [(0, 17)], 1, 8, [.nilp]⟩
  | 20 => ⟨.iface, 1, 16, [.nili]⟩
  | 21 => ⟨.int .i32, 1, 4, [.int .i32 0]⟩
  | 22 => ⟨.slice 24, 1, 24, [.nils 24 8]⟩
  | 23 => ⟨.struct [(0, 3), (1, 9), (2, 2), (3, 2), (4, 3), (5, 3), (6, 9), (7, 22)], 8, 96, [.int .i64 0, .str [], .int .i64 0, .int .i64 0, .int .i64 0, .int .i64 0, .str [], .nils 24 8]⟩
  | 24 => ⟨.struct [(0, 3), (1, 9), (2, 2), (3, 2), (4, 3), (5, 3), (6, 9), (7, 22)], 8, 96, [.int .i64 0, .str [], .int .i64 0, .int .i64 0, .int .i64 0, .int .i64 0, .str [], .nils 24 8]⟩
  | 25 => ⟨.func, 1, 8, [.nilf]⟩
  | 26 => ⟨.func, 1, 8, [.nilf]⟩
  | 27 => ⟨.func, 1, 8, [.nilf]⟩
  | 28 => ⟨.func, 1, 8, [.nilf]⟩
  | 29 => ⟨.func, 1, 8, [.nilf]⟩
  | 30 => ⟨.func, 1, 8, [.nilf]⟩
  | 31 => ⟨.int .u64, 1, 8, [.int .u64 0]⟩
  | 33 => ⟨.func, 1, 8, [.nilf]⟩
  | 34 => ⟨.func, 1, 8, [.nilf]⟩
  | 35 => ⟨.func, 1, 8, [.nilf]⟩
  | 36 => ⟨.func, 1, 8, [.nilf]⟩
  | 37 => ⟨.func, 1, 8, [.nilf]⟩
  | 38 => ⟨.func, 1, 8, [.nilf]⟩
  | 40 => ⟨.func, 1, 8, [.nilf]⟩
  | 42 => ⟨.func, 1, 8, [.nilf]⟩
  | 43 => ⟨.func, 1, 8, [.nilf]⟩
  | 44 => ⟨.func, 1, 8, [.nilf]⟩
  | 45 => ⟨.func, 1, 8, [.nilf]⟩
  | 46 => ⟨.slice 5, 1, 24, [.nils 5 1]⟩
  | 47 => ⟨.func, 1, 8, [.nilf]⟩
  | 48 => ⟨.arr 20 5, 20, 20, [.int .u8 0, .int .u8 0, .int .u8 0, .int .u8 0, .int .u8 0, .int .u8 0, .int .u8 0, .int .u8 0, .int .u8 0, .int .u8 0, .int .u8 0, .int .u8 0, .int .u8 0, .int .u8 0, .int .u8 0, .int .u8 0, .int .u8 0, .int .u8 0, .int .u8 0, .int .u8 0]⟩
  | 49 => ⟨.func, 1, 8, [.nilf]⟩
  | 50 => ⟨.struct [(0, 26), (1, 26), (2, 49), (3, 3), (4, 4)], 5, 40, [.nilf, .nilf, .nilf, .int .i64 0, .bool false]⟩
  | 51 => ⟨.struct [(0, 26), (1, 26), (2, 49), (3, 3), (4, 4)], 5, 40, [.nilf, .nilf, .nilf, .int .i64 0, .bool false]⟩
  | 53 => ⟨.func, 1, 8, [.nilf]⟩
  | 55 => ⟨.func, 1, 8, [.nilf]⟩
  | 56 => ⟨.func, 1, 8, [.nilf]⟩
  | 57 => ⟨.func, 1, 8, [.nilf]⟩
  | 58 => ⟨.func, 1, 8, [.nilf]⟩
  | 59 => ⟨.func, 1, 8, [.nilf]⟩
  | 60 => ⟨.func, 1, 8, [.nilf]⟩
  | 61 => ⟨.func, 1, 8, [.nilf]⟩
  | 62 => ⟨.func, 1, 8, [.nilf]⟩
  | 63 => ⟨.slice 3, 1, 24, [.nils 3 1]⟩
  | 64 => ⟨.func, 1, 8, [.nilf]⟩
  | 65 => ⟨.func, 1, 8, [.nilf]⟩
  | 67 => ⟨.func, 1, 8, [.nilf]⟩
  | 68 => ⟨.func, 1, 8, [.nilf]⟩
  | 69 => ⟨.func, 1, 8, [.nilf]⟩
  | 70 => ⟨.func, 1, 8, [.nilf]⟩
  | 71 => ⟨.func, 1, 8, [.nilf]⟩
  | 72 => ⟨.func, 1, 8, [.nilf]⟩
  | 73 => ⟨.func, 1, 8, [.nilf]⟩
  | 75 => ⟨.func, 1, 8, [.nilf]⟩
  | 76 => ⟨.func, 1, 8, [.nilf]⟩
  | 77 => ⟨.func, 1, 8, [.nilf]⟩
  | 78 => ⟨.int .u64, 1, 8, [.int .u64 0]⟩
  | 79 => ⟨.arr 256 5, 256, 256, [.int .u8 0, .int .u8 0, .int .u8 0, .int .u8 0, .int .u8 0, .int .u8 0, .int .u8 0, .int .u8 0, .int .u8 0, .int .u8 0, .int .u8 0, .int .u8 0, .int .u8 0, .int .u8 0, .int .u8 0, .int .u8 0, .int .u8 0, .int .u8 0, .int .u8 0, .int .u8 0, .int .u8 0, .int .u8 0, .int .u8 0, .int .u8 0, .int .u8 0, .int .u8 0, .int .u8 0, .int .u8 0, .int .u8 0, .int .u8 0, .int .u8 0, .int .u8 0, .int .u8 0, .int .u8 0, .int .u8 0, .int .u8 0, .int .u8 0, .int .u8 0, .int .u8 0, .int .u8 0, .int .u8 0, .int .u8 0, .int .u8 0, .int .u8 0, .int .u8 0, .int .u8 0, .int .u8 0, .int .u8 0, .int .u8 0, .int .u8 0, .int .u8 0, .int .u8 0, .int .u8 0, .int .u8 0, .int .u8 0, .int .u8 0, .int .u8 0, .int .u8 0, .int .u8 0, .int .u8 0, .int .u8 0, .int .u8 0, .int .u8 0, .int .u8 0, .int .u8 0, .int .u8 0, .int .u8 0, .int .u8 0, .int .u8 0, .int .u8 0, .int .u8 0, .int .u8 0, .int .u8 0, .int .u8 0, .int .u8 0, .int .u8 0, .int .u8 0, .int .u8 0, .int .u8 0, .int .u8 0, .int .u8 0, .int .u8 0, .int .u8 0, .int .u8 0, .int .u8 0, .int .u8 0, .int .u8 0, .int .u8 0, .int .u8 0, .int .u8 0, .int .u8 0, .int .u8 0, .int .u8 0, .int .u8 0, .int .u8 0, .int .u8 0, .int .u8 0, .int .u8 0, .int .u8 0, .int .u8 0, .int .u8 0, .int .u8 0, .int .u8 0, .int .u8 0, .int .u8 0, .int .u8 0, .int .u8 0, .int .u8 0, .int .u8 0, .int .u8 0, .int .u8 0, .int .u8 0, .int .u8 0, .int .u8 0, .int .u8 0, .int .u8 0, .int .u8 0, .int .u8 0, .int .u8 0, .int .u8 0, .int .u8 0, .int .u8 0, .int .u8 0, .int .u8 0, .int .u8 0, .int .u8 0, .int .u8 0, .int .u8 0, .int .u8 0, .int .u8 0, .int .u8 0, .int .u8 0, .int .u8 0, .int .u8 0, .int .u8 0, .int .u8 0, .int .u8 0, .int .u8 0, .int .u8 0, .int .u8 0, .int .u8 0, .int .u8 0, .int .u8 0, .int .u8 0, .int .u8 0, .int .u8 0, .int .u8 0, .int .u8 0, .int .u8 0, .int .u8 0, .int .u8 0, .int .u8 0, .int .u8 0, .int .u8 0, .int .u8 0, .int .u8 0, .int .u8 0, .int .u8 0, .int .u8 0, .int .u8 0, .int .u8 0, .int .u8 0, .int .u8 0, .int .u8 0, .int .u8 0, .int .u8 0, .int .u8 0, .int .u8 0, .int .u8 0, .int .u8 0, .int .u8 0, .int .u8 0, .int .u8 0, .int .u8 0, .int .u8 0, .int .u8 0, .int .u8 0, .int .u8 0, .int .u8 0, .int .u8 0, .int .u8 0, .int .u8 0, .int .u8 0, .int .u8 0, .int .u8 0, .int .u8 0, .int .u8 0, .int .u8 0, .int .u8 0, .int .u8 0, .int .u8 0, .int .u8 0, .int .u8 0, .int .u8 0, .int .u8 0, .int .u8 0, .int .u8 0, .int .u8 0, .int .u8 0, .int .u8 0, .int .u8 0, .int .u8 0, .int .u8 0, .int .u8 0, .int .u8 0, .int .u8 0, .int .u8 0, .int .u8 0, .int .u8 0, .int .u8 0, .int .u8 0, .int .u8 0, .int .u8 0, .int .u8 0, .int .u8 0, .int .u8 0, .int .u8 0, .int .u8 0, .int .u8 0, .int .u8 0, .int .u8 0, .int .u8 0, .int .u8 0, .int .u8 0, .int .u8 0, .int .u8 0, .int .u8 0, .int .u8 0, .int .u8 0, .int .u8 0, .int .u8 0, .int .u8 0, .int .u8 0, .int .u8 0, .int .u8 0, .int .u8 0, .int .u8 0, .int .u8 0, .int .u8 0, .int .u8 0, .int .u8 0, .int .u8 0, .int .u8 0, .int .u8 0, .int .u8 0, .int .u8 0, .int .u8 0, .int .u8 0, .int .u8 0, .int .u8 0, .int .u8 0, .int .u8 0, .int .u8 0, .int .u8 0, .int .u8 0, .int .u8 0]⟩
  | 80 => ⟨.struct [(0, 5), (1, 5)], 2, 2, [.int .u8 0, .int .u8 0]⟩
  | 81 => ⟨.struct [(0, 5), (1, 5)], 2, 2, [.int .u8 0, .int .u8 0]⟩
  | 82 => ⟨.arr 16 81, 32, 32, [.int .u8 0, .int .u8 0, .int .u8 0, .int .u8 0, .int .u8 0, .int .u8 0, .int .u8 0, .int .u8 0, .int .u8 0, .int .u8 0, .int .u8 0, .int .u8 0, .int .u8 0, .int .u8 0, .int .u8 0, .int .u8 0, .int .u8 0, .int .u8 0, .int .u8 0, .int .u8 0, .int .u8 0, .int .u8 0, .int .u8 0, .int .u8 0, .int .u8 0, .int .u8 0, .int .u8 0, .int .u8 0, .int .u8 0, .int .u8 0, .int .u8 0, .int .u8 0]⟩
  | 83 => ⟨.int .u32, 1, 4, [.int .u32 0]⟩
  | 85 => ⟨.func, 1, 8, [.nilf]⟩
  | 86 => ⟨.func, 1, 8, [.nilf]⟩
  | 87 => ⟨.struct [(0, 17), (1, 17), (2, 17), (3, 9)], 4, 40, [.nilp, .nilp, .nilp, .str []]⟩
  | 88 => ⟨.struct [(0, 17), (1, 17), (2, 17), (3, 9)], 4, 40, [.nilp, .nilp, .nilp, .str []]⟩
  | 92 => ⟨.func, 1, 8, [.nilf]⟩
  | 93 => ⟨.int .u8, 1, 1, [.int .u8 0]⟩
  | 94 => ⟨.int .u8, 1, 1, [.int .u8 0]⟩
  | 95 => ⟨.func, 1, 8, [.nilf]⟩
  | 96 => ⟨.ptr 5, 1, 8, [.nilp]⟩
  | 97 => ⟨.int .i32, 1, 4, [.int .i32 0]⟩
  | 98 => ⟨.int .i32, 1, 4, [.int .i32 0]⟩
  | 99 => ⟨.struct [(0, 12), (1, 12), (2, 83), (3, 93), (4, 5), (5, 5), (6, 94), (7, 95), (8, 96), (9, 97), (10, 98)], 11, 48, [.int .u64 0, .int .u64 0, .int .u32 0, .int .u8 0, .int .u8 0, .int .u8 0, .int .u8 0, .nilf, .nilp, .int .i32 0, .int .i32 0]⟩
  | 100 => ⟨.struct [(0, 12), (1, 12), (2, 83), (3, 93), (4, 5), (5, 5), (6, 94), (7, 95), (8, 96), (9, 97), (10, 98)], 11, 48, [.int .u64 0, .int .u64 0, .int .u32 0, .int .u8 0, .int .u8 0, .int .u8 0, .int .u8 0, .nilf, .nilp, .int .i32 0, .int .i32 0]⟩
  | _ => ⟨.other, 0, 0, []⟩

theorem ty_far (t : Nat) (h : 102 ≤ t) : ty t = ⟨.other, 0, 0, []⟩ := by
  obtain ⟨k, rfl⟩ : ∃ k, t = k + 102 := ⟨t - 102, by omega⟩
  rfl
theorem ty_check : ((List.range 102).all fun t => tyCheck Tryd.prog ty t) = true := by kernel_rfl
theorem ty_tab : TyTab Tryd.prog ty := TyTab.of 102 ty_far ty_check
theorem mixed : Tryd.prog.follows .mixedOrders = true := by kernel_rfl

end Go.Proofs.YtnpobhbpbefciaaDoor.Pv
