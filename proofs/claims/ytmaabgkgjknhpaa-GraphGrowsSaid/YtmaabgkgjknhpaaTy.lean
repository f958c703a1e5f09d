/- The types of this seat, for the pure evaluator: printed by gen_ty.py. -/
import Derived.Test.YtmaabgkgjknhpaaPwT
import Derived.Test.YtmaabgkgjknhpaaProg
import Derived.KernelRfl
set_option linter.unusedVariables false
namespace Go.Proofs.Ytmaabgkgjknhpaa.Pv
open Go

def ty : Nat → Ty
  | 1 => ⟨.func, 1, 8, [.nilf]⟩
  | 2 => ⟨.int .i64, 1, 8, [.int .i64 0]⟩
  | 3 => ⟨.int .i64, 1, 8, [.int .i64 0]⟩
  | 4 => ⟨.bool, 1, 1, [.bool false]⟩
  | 5 => ⟨.int .u8, 1, 1, [.int .u8 0]⟩
  | 6 => ⟨.int .u8, 1, 1, [.int .u8 0]⟩
  | 7 => ⟨.struct [(0, 2), (1, 3), (2, 4), (3, 6)], 4, 24, [.int .i64 0, .int .i64 0, .bool false, .int .u8 0]⟩
  | 8 => ⟨.struct [(0, 2), (1, 3), (2, 4), (3, 6)], 4, 24, [.int .i64 0, .int .i64 0, .bool false, .int .u8 0]⟩
  | 9 => ⟨.str, 1, 16, [.str []]⟩
  | 10 => ⟨.str, 1, 16, [.str []]⟩
  | 11 => ⟨.str, 1, 16, [.str []]⟩
  | 12 => ⟨.int .u64, 1, 8, [.int .u64 0]⟩
  | 13 => ⟨.struct [(0, 9), (1, 12)], 2, 24, [.str [], .int .u64 0]⟩
  | 14 => ⟨.struct [(0, 9), (1, 12)], 2, 24, [.str [], .int .u64 0]⟩
  | 15 => ⟨.ptr 88, 1, 8, [.nilp]⟩
  | 16 => ⟨.ptr 91, 1, 8, [.nilp]⟩
  | 17 => ⟨.ptr 100, 1, 8, [.nilp]⟩
  | 18 => ⟨.struct [(0, 17)], 1, 8, [.nilp]⟩
  | 19 => ⟨.struct [(0, 17)], 1, 8, [.nilp]⟩
  | 20 => ⟨.iface, 1, 16, [.nili]⟩
  | 21 => ⟨.int .i32, 1, 4, [.int .i32 0]⟩
  | 22 => ⟨.slice 39, 1, 24, [.nils 39 3]⟩
  | 23 => ⟨.slice 9, 1, 24, [.nils 9 1]⟩
  | 24 => ⟨.func, 1, 8, [.nilf]⟩
  | 25 => ⟨.func, 1, 8, [.nilf]⟩
  | 26 => ⟨.int .i64, 1, 8, [.int .i64 0]⟩
  | 28 => ⟨.func, 1, 8, [.nilf]⟩
  | 30 => ⟨.func, 1, 8, [.nilf]⟩
  | 31 => ⟨.func, 1, 8, [.nilf]⟩
  | 32 => ⟨.func, 1, 8, [.nilf]⟩
  | 33 => ⟨.func, 1, 8, [.nilf]⟩
  | 34 => ⟨.func, 1, 8, [.nilf]⟩
  | 35 => ⟨.func, 1, 8, [.nilf]⟩
  | 36 => ⟨.func, 1, 8, [.nilf]⟩
  | 37 => ⟨.slice 3, 1, 24, [.nils 3 1]⟩
  | 38 => ⟨.struct [(0, 9), (1, 23), (2, 37)], 3, 64, [.str [], .nils 9 1, .nils 3 1]⟩
  | 39 => ⟨.struct [(0, 9), (1, 23), (2, 37)], 3, 64, [.str [], .nils 9 1, .nils 3 1]⟩
  | 40 => ⟨.func, 1, 8, [.nilf]⟩
  | 41 => ⟨.func, 1, 8, [.nilf]⟩
  | 42 => ⟨.func, 1, 8, [.nilf]⟩
  | 43 => ⟨.struct [(0, 9), (1, 26)], 2, 24, [.str [], .int .i64 0]⟩
  | 44 => ⟨.struct [(0, 9), (1, 26)], 2, 24, [.str [], .int .i64 0]⟩
  | 46 => ⟨.map 9 39, 1, 8, [.nilm]⟩
  | 47 => ⟨.func, 1, 8, [.nilf]⟩
  | 48 => ⟨.map 9 3, 1, 8, [.nilm]⟩
  | 49 => ⟨.func, 1, 8, [.nilf]⟩
  | 51 => ⟨.func, 1, 8, [.nilf]⟩
  | 52 => ⟨.ptr 54, 1, 8, [.nilp]⟩
  | 53 => ⟨.struct [(0, 22), (1, 23), (2, 23), (3, 9), (4, 3)], 5, 96, [.nils 39 3, .nils 9 1, .nils 9 1, .str [], .int .i64 0]⟩
  | 54 => ⟨.struct [(0, 22), (1, 23), (2, 23), (3, 9), (4, 3)], 5, 96, [.nils 39 3, .nils 9 1, .nils 9 1, .str [], .int .i64 0]⟩
  | 55 => ⟨.func, 1, 8, [.nilf]⟩
  | 56 => ⟨.func, 1, 8, [.nilf]⟩
  | 57 => ⟨.func, 1, 8, [.nilf]⟩
  | 58 => ⟨.func, 1, 8, [.nilf]⟩
  | 59 => ⟨.func, 1, 8, [.nilf]⟩
  | 60 => ⟨.func, 1, 8, [.nilf]⟩
  | 61 => ⟨.func, 1, 8, [.nilf]⟩
  | 62 => ⟨.int .u64, 1, 8, [.int .u64 0]⟩
  | 63 => ⟨.func, 1, 8, [.nilf]⟩
  | 64 => ⟨.int .i64, 1, 8, [.int .i64 0]⟩
  | 66 => ⟨.func, 1, 8, [.nilf]⟩
  | 67 => ⟨.func, 1, 8, [.nilf]⟩
  | 68 => ⟨.func, 1, 8, [.nilf]⟩
  | 69 => ⟨.func, 1, 8, [.nilf]⟩
  | 71 => ⟨.func, 1, 8, [.nilf]⟩
  | 72 => ⟨.func, 1, 8, [.nilf]⟩
  | 73 => ⟨.int .u32, 1, 4, [.int .u32 0]⟩
  | 74 => ⟨.func, 1, 8, [.nilf]⟩
  | 75 => ⟨.int .u64, 1, 8, [.int .u64 0]⟩
  | 76 => ⟨.int .u64, 1, 8, [.int .u64 0]⟩
  | 77 => ⟨.func, 1, 8, [.nilf]⟩
  | 78 => ⟨.func, 1, 8, [.nilf]⟩
  | 79 => ⟨.func, 1, 8, [.nilf]⟩
  | 80 => ⟨.ptr 3, 1, 8, [.nilp]⟩
  | 81 => ⟨.func, 1, 8, [.nilf]⟩
  | 82 => ⟨.func, 1, 8, [.nilf]⟩
  | 83 => ⟨.ptr 76, 1, 8, [.nilp]⟩
  | 85 => ⟨.func, 1, 8, [.nilf]⟩
  | 86 => ⟨.func, 1, 8, [.nilf]⟩
  | 87 => ⟨.struct [(0, 17), (1, 17), (2, 17), (3, 9)], 4, 40, [.nilp, .nilp, .nilp, .str []]⟩
  | 88 => ⟨.struct [(0, 17), (1, 17), (2, 17), (3, 9)], 4, 40, [.nilp, .nilp, .nilp, .str []]⟩
  | 92 => ⟨.func, 1, 8, [.nilf]⟩
  | 93 => ⟨.int .u8, 1, 1, [.int .u8 0]⟩
  | 94 => ⟨.int .u8, 1, 1, [.int .u8 0]⟩
  | 95 => ⟨.func, 1, 8, [.nilf]⟩
  | 96 => ⟨.ptr 5, 1, 8, [.nilp]⟩
  | 97 => ⟨.int .i32, 1, 4, [.int .i32 0]⟩
  | 98 => ⟨.int .i32, 1, 4, [.int .i32 0]⟩
  | 99 => ⟨.struct [(0, 12), (1, 12), (2, 73), (3, 93), (4, 5), (5, 5), (6, 94), (7, 95), (8, 96), (9, 97), (10, 98)], 11, 48, [.int .u64 0, .int .u64 0, .int .u32 0, .int .u8 0, .int .u8 0, .int .u8 0, .int .u8 0, .nilf, .nilp, .int .i32 0, .int .i32 0]⟩
  | 100 => ⟨.struct [(0, 12), (1, 12), (2, 73), (3, 93), (4, 5), (5, 5), (6, 94), (7, 95), (8, 96), (9, 97), (10, 98)], 11, 48, [.int .u64 0, .int .u64 0, .int .u32 0, .int .u8 0, .int .u8 0, .int .u8 0, .int .u8 0, .nilf, .nilp, .int .i32 0, .int .i32 0]⟩
  | _ => ⟨.other, 0, 0, []⟩

theorem ty_far (t : Nat) (h : 102 ≤ t) : ty t = ⟨.other, 0, 0, []⟩ := by
  obtain ⟨k, rfl⟩ : ∃ k, t = k + 102 := ⟨t - 102, by omega⟩
  rfl
theorem ty_check : ((List.range 102).all fun t => tyCheck Try.prog ty t) = true := by kernel_rfl
theorem ty_tab : TyTab Try.prog ty := TyTab.of 102 ty_far ty_check
theorem mixed : Try.prog.follows .mixedOrders = true := by kernel_rfl

end Go.Proofs.Ytmaabgkgjknhpaa.Pv
