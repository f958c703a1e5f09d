/- The types of this seat, for the pure evaluator: printed by gen_ty.py. -/
import Derived.Test.YtgbgnglngpbehaaPwT
import Derived.Test.YtgbgnglngpbehaaProg
import Derived.KernelRfl
set_option linter.unusedVariables false
namespace Go.Proofs.Ytgbgnglngpbehaa.Pv
open Go

def ty : Nat → Ty
  | 1 => ⟨.func, 1, 8, [.nilf]⟩
  | 2 => ⟨.int .i64, 1, 8, [.int .i64 0]⟩
  | 3 => ⟨.int .i64, 1, 8, [.int .i64 0]⟩
  | 4 => ⟨.bool, 1, 1, [.bool false]⟩
  | 5 => ⟨.int .u8, 1, 1, [.int .u8 0]⟩
  | 6 => ⟨.int .u8, 1, 1, [.int .u8 0]⟩
  | 7 => ⟨.struct [(0, 2), (1, 3), (2, 4), (3, 6)], 4, 24, [.int .i64 0, .int .i64 0, .bool false, .int .u8 0]⟩
  | 8 => ⟨.struct [(0, 2), (1, 3), (2, 4), (3, 6)], 4, 24, [.int .i64 0, .int .i64 0, .bool false, .int .u8 0]⟩
  | 9 => ⟨.str, 1, 16, [.str []]⟩
  | 10 => ⟨.str, 1, 16, [.str []]⟩
  | 11 => ⟨.str, 1, 16, [.str []]⟩
  | 12 => ⟨.int .u64, 1, 8, [.int .u64 0]⟩
  | 13 => ⟨.struct [(0, 9), (1, 12)], 2, 24, [.str [], .int .u64 0]⟩
  | 14 => ⟨.struct [(0, 9), (1, 12)], 2, 24, [.str [], .int .u64 0]⟩
  | 15 => ⟨.ptr 62, 1, 8, [.nilp]⟩
  | 16 => ⟨.ptr 65, 1, 8, [.nilp]⟩
  | 17 => ⟨.ptr 74, 1, 8, [.nilp]⟩
  | 18 => ⟨.struct [(0, 17)], 1, 8, [.nilp]⟩
  | 19 => ⟨.struct [(0, 17)], 1, 8, [.nilp]⟩
  | 20 => ⟨.iface, 1, 16, [.nili]⟩
  | 21 => ⟨.int .i32, 1, 4, [.int .i32 0]⟩
  | 22 => ⟨.func, 1, 8, [.nilf]⟩
  | 23 => ⟨.slice 5, 1, 24, [.nils 5 1]⟩
  | 24 => ⟨.int .i64, 1, 8, [.int .i64 0]⟩
  | 26 => ⟨.func, 1, 8, [.nilf]⟩
  | 28 => ⟨.func, 1, 8, [.nilf]⟩
  | 29 => ⟨.func, 1, 8, [.nilf]⟩
  | 30 => ⟨.int .u64, 1, 8, [.int .u64 0]⟩
  | 32 => ⟨.func, 1, 8, [.nilf]⟩
  | 33 => ⟨.func, 1, 8, [.nilf]⟩
  | 34 => ⟨.func, 1, 8, [.nilf]⟩
  | 35 => ⟨.func, 1, 8, [.nilf]⟩
  | 36 => ⟨.func, 1, 8, [.nilf]⟩
  | 37 => ⟨.func, 1, 8, [.nilf]⟩
  | 38 => ⟨.func, 1, 8, [.nilf]⟩
  | 39 => ⟨.func, 1, 8, [.nilf]⟩
  | 41 => ⟨.func, 1, 8, [.nilf]⟩
  | 42 => ⟨.func, 1, 8, [.nilf]⟩
  | 43 => ⟨.arr 20 5, 20, 20, [.int .u8 0, .int .u8 0, .int .u8 0, .int .u8 0, .int .u8 0, .int .u8 0, .int .u8 0, .int .u8 0, .int .u8 0, .int .u8 0, .int .u8 0, .int .u8 0, .int .u8 0, .int .u8 0, .int .u8 0, .int .u8 0, .int .u8 0, .int .u8 0, .int .u8 0, .int .u8 0]⟩
  | 44 => ⟨.ptr 46, 1, 8, [.nilp]⟩
  | 45 => ⟨.struct [(0, 44), (1, 23)], 2, 32, [.nilp, .nils 5 1]⟩
  | 46 => ⟨.struct [(0, 44), (1, 23)], 2, 32, [.nilp, .nils 5 1]⟩
  | 47 => ⟨.iface, 1, 16, [.nili]⟩
  | 48 => ⟨.iface, 1, 16, [.nili]⟩
  | 49 => ⟨.func, 1, 8, [.nilf]⟩
  | 50 => ⟨.func, 1, 8, [.nilf]⟩
  | 51 => ⟨.func, 1, 8, [.nilf]⟩
  | 53 => ⟨.func, 1, 8, [.nilf]⟩
  | 54 => ⟨.func, 1, 8, [.nilf]⟩
  | 55 => ⟨.func, 1, 8, [.nilf]⟩
  | 56 => ⟨.func, 1, 8, [.nilf]⟩
  | 57 => ⟨.ptr 5, 1, 8, [.nilp]⟩
  | 58 => ⟨.int .u64, 1, 8, [.int .u64 0]⟩
  | 60 => ⟨.func, 1, 8, [.nilf]⟩
  | 61 => ⟨.struct [(0, 17), (1, 17), (2, 17), (3, 9)], 4, 40, [.nilp, .nilp, .nilp, .str []]⟩
  | 62 => ⟨.struct [(0, 17), (1, 17), (2, 17), (3, 9)], 4, 40, [.nilp, .nilp, .nilp, .str []]⟩
  | 66 => ⟨.func, 1, 8, [.nilf]⟩
  | 67 => ⟨.int .u32, 1, 4, [.int .u32 0]⟩
  | 68 => ⟨.int .u8, 1, 1, [.int .u8 0]⟩
  | 69 => ⟨.int .u8, 1, 1, [.int .u8 0]⟩
  | 70 => ⟨.func, 1, 8, [.nilf]⟩
  | 71 => ⟨.int .i32, 1, 4, [.int .i32 0]⟩
  | 72 => ⟨.int .i32, 1, 4, [.int .i32 0]⟩
  | 73 => ⟨.struct [(0, 12), (1, 12), (2, 67), (3, 68), (4, 5), (5, 5), (6, 69), (7, 70), (8, 57), (9, 71), (10, 72)], 11, 48, [.int .u64 0, .int .u64 0, .int .u32 0, .int .u8 0, .int .u8 0, .int .u8 0, .int .u8 0, .nilf, .nilp, .int .i32 0, .int .i32 0]⟩
  | 74 => ⟨.struct [(0, 12), (1, 12), (2, 67), (3, 68), (4, 5), (5, 5), (6, 69), (7, 70), (8, 57), (9, 71), (10, 72)], 11, 48, [.int .u64 0, .int .u64 0, .int .u32 0, .int .u8 0, .int .u8 0, .int .u8 0, .int .u8 0, .nilf, .nilp, .int .i32 0, .int .i32 0]⟩
  | _ => ⟨.other, 0, 0, []⟩

theorem ty_far (t : Nat) (h : 75 ≤ t) : ty t = ⟨.other, 0, 0, []⟩ := by
  obtain ⟨k, rfl⟩ : ∃ k, t = k + 75 := ⟨t - 75, by omega⟩
  rfl
theorem ty_check : ((List.range 75).all fun t => tyCheck Try.prog ty t) = true := by kernel_rfl
theorem ty_tab : TyTab Try.prog ty := TyTab.of 75 ty_far ty_check
theorem mixed : Try.prog.follows .mixedOrders = true := by kernel_rfl

end Go.Proofs.Ytgbgnglngpbehaa.Pv
