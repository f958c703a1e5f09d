/- The types of this seat, for the pure evaluator: printed by gen_ty.py. -/
import Derived.Test.YtblbbmlppmpmjaaPwT
import Derived.Test.YtblbbmlppmpmjaaProg
import Derived.KernelRfl
set_option linter.unusedVariables false
namespace Go.Proofs.Ytblbbmlppmpmjaa.Pv
open Go

def ty : Nat → Ty
  | 1 => ⟨.func, 1, 8, [.nilf]⟩
  | 2 => ⟨.int .i64, 1, 8, [.int .i64 0]⟩
  | 3 => ⟨.int .i64, 1, 8, [.int .i64 0]⟩
  | 4 => ⟨.bool, 1, 1, [.bool false]⟩
  | 5 => ⟨.int .u8, 1, 1, [.int .u8 0]⟩
  | 6 => ⟨.int .u8, 1, 1, [.int .u8 0]⟩
  | 7 => ⟨.struct [(0, 2), (1, 3), (2, 4), (3, 6)], 4, 24, [.int .i64 0, .int .i64 0, .bool false, .int .u8 0]⟩
  | 8 => ⟨.struct [(0, 2), (1, 3), (2, 4), (3, 6)], 4, 24, [.int .i64 0, .int .i64 0, .bool false, .int .u8 0]⟩
  | 9 => ⟨.str, 1, 16, [.str []]⟩
  | 10 => ⟨.str, 1, 16, [.str []]⟩
  | 11 => ⟨.str, 1, 16, [.str []]⟩
  | 12 => ⟨.int .u64, 1, 8, [.int .u64 0]⟩
  | 13 => ⟨.struct [(0, 9), (1, 12)], 2, 24, [.str [], .int .u64 0]⟩
  | 14 => ⟨.struct [(0, 9), (1, 12)], 2, 24, [.str [], .int .u64 0]⟩
  | 15 => ⟨.ptr 84, 1, 8, [.nilp]⟩
  | 16 => ⟨.ptr 87, 1, 8, [.nilp]⟩
  | 17 => ⟨.ptr 95, 1, 8, [.nilp]⟩
  | 18 => ⟨.struct [(0, 17)], 1, 8, [.nilp]⟩
  | 19 => ⟨.struct [(0, 17)], 1, 8, [.nilp]⟩
  | 20 => ⟨.iface, 1, 16, [.nili]⟩
  | 21 => ⟨.int .i32, 1, 4, [.int .i32 0]⟩
  | 22 => ⟨.func, 1, 8, [.nilf]⟩
  | 23 => ⟨.slice 29, 1, 24, [.nils 29 5]⟩
  | 24 => ⟨.int .i64, 1, 8, [.int .i64 0]⟩
  | 26 => ⟨.func, 1, 8, [.nilf]⟩
  | 27 => ⟨.int .u64, 1, 8, [.int .u64 0]⟩
  | 28 => ⟨.struct [(0, 3), (1, 9), (2, 27), (3, 3), (4, 9)], 5, 56, [.int .i64 0, .str [], .int .u64 0, .int .i64 0, .str []]⟩
  | 29 => ⟨.struct [(0, 3), (1, 9), (2, 27), (3, 3), (4, 9)], 5, 56, [.int .i64 0, .str [], .int .u64 0, .int .i64 0, .str []]⟩
  | 30 => ⟨.func, 1, 8, [.nilf]⟩
  | 31 => ⟨.func, 1, 8, [.nilf]⟩
  | 32 => ⟨.func, 1, 8, [.nilf]⟩
  | 34 => ⟨.func, 1, 8, [.nilf]⟩
  | 35 => ⟨.cpx .f64, 1, 16, [.cpx .f64 0 0]⟩
  | 36 => ⟨.func, 1, 8, [.nilf]⟩
  | 37 => ⟨.flt .f64, 1, 8, [.flt .f64 0]⟩
  | 38 => ⟨.func, 1, 8, [.nilf]⟩
  | 39 => ⟨.ptr 42, 1, 8, [.nilp]⟩
  | 40 => ⟨.slice 9, 1, 24, [.nils 9 1]⟩
  | 41 => ⟨.struct [(0, 9), (1, 3), (2, 40), (3, 4), (4, 4), (5, 23)], 6, 80, [.str [], .int .i64 0, .nils 9 1, .bool false, .bool false, .nils 29 5]⟩
  | 42 => ⟨.struct [(0, 9), (1, 3), (2, 40), (3, 4), (4, 4), (5, 23)], 6, 80, [.str [], .int .i64 0, .nils 9 1, .bool false, .bool false, .nils 29 5]⟩
  | 43 => ⟨.func, 1, 8, [.nilf]⟩
  | 45 => ⟨.func, 1, 8, [.nilf]⟩
  | 46 => ⟨.ptr 49, 1, 8, [.nilp]⟩
  | 47 => ⟨.slice 5, 1, 24, [.nils 5 1]⟩
  | 48 => ⟨.struct [(0, 46), (1, 47)], 2, 32, [.nilp, .nils 5 1]⟩
  | 49 => ⟨.struct [(0, 46), (1, 47)], 2, 32, [.nilp, .nils 5 1]⟩
  | 51 => ⟨.func, 1, 8, [.nilf]⟩
  | 52 => ⟨.iface, 1, 16, [.nili]⟩
  | 53 => ⟨.iface, 1, 16, [.nili]⟩
  | 55 => ⟨.func, 1, 8, [.nilf]⟩
  | 56 => ⟨.func, 1, 8, [.nilf]⟩
  | 57 => ⟨.func, 1, 8, [.nilf]⟩
  | 58 => ⟨.func, 1, 8, [.nilf]⟩
  | 59 => ⟨.func, 1, 8, [.nilf]⟩
  | 60 => ⟨.func, 1, 8, [.nilf]⟩
  | 61 => ⟨.func, 1, 8, [.nilf]⟩
  | 63 => ⟨.func, 1, 8, [.nilf]⟩
  | 65 => ⟨.func, 1, 8, [.nilf]⟩
  | 66 => ⟨.ptr 5, 1, 8, [.nilp]⟩
  | 67 => ⟨.func, 1, 8, [.nilf]⟩
  | 68 => ⟨.func, 1, 8, [.nilf]⟩
  | 69 => ⟨.func, 1, 8, [.nilf]⟩
  | 71 => ⟨.func, 1, 8, [.nilf]⟩
  | 73 => ⟨.func, 1, 8, [.nilf]⟩
  | 74 => ⟨.func, 1, 8, [.nilf]⟩
  | 75 => ⟨.func, 1, 8, [.nilf]⟩
  | 76 => ⟨.func, 1, 8, [.nilf]⟩
  | 77 => ⟨.func, 1, 8, [.nilf]⟩
  | 78 => ⟨.int .u64, 1, 8, [.int .u64 0]⟩
  | 79 => ⟨.func, 1, 8, [.nilf]⟩
  | 80 => ⟨.int .u32, 1, 4, [.int .u32 0]⟩
  | 82 => ⟨.func, 1, 8, [.nilf]⟩
  | 83 => ⟨.struct [(0, 17), (1, 17), (2, 17), (3, 9)], 4, 40, [.nilp, .nilp, .nilp, .str []]⟩
  | 84 => ⟨.struct [(0, 17), (1, 17), (2, 17), (3, 9)], 4, 40, [.nilp, .nilp, .nilp, .str []]⟩
  | 88 => ⟨.func, 1, 8, [.nilf]⟩
  | 89 => ⟨.int .u8, 1, 1, [.int .u8 0]⟩
  | 90 => ⟨.int .u8, 1, 1, [.int .u8 0]⟩
  | 91 => ⟨.func, 1, 8, [.nilf]⟩
  | 92 => ⟨.int .i32, 1, 4, [.int .i32 0]⟩
  | 93 => ⟨.int .i32, 1, 4, [.int .i32 0]⟩
  | 94 => ⟨.struct [(0, 12), (1, 12), (2, 80), (3, 89), (4, 5), (5, 5), (6, 90), (7, 91), (8, 66), (9, 92), (10, 93)], 11, 48, [.int .u64 0, .int .u64 0, .int .u32 0, .int .u8 0, .int .u8 0, .int .u8 0, .int .u8 0, .nilf, .nilp, .int .i32 0, .int .i32 0]⟩
  | 95 => ⟨.struct [(0, 12), (1, 12), (2, 80), (3, 89), (4, 5), (5, 5), (6, 90), (7, 91), (8, 66), (9, 92), (10, 93)], 11, 48, [.int .u64 0, .int .u64 0, .int .u32 0, .int .u8 0, .int .u8 0, .int .u8 0, .int .u8 0, .nilf, .nilp, .int .i32 0, .int .i32 0]⟩
  | _ => ⟨.other, 0, 0, []⟩

theorem ty_far (t : Nat) (h : 96 ≤ t) : ty t = ⟨.other, 0, 0, []⟩ := by
  obtain ⟨k, rfl⟩ : ∃ k, t = k + 96 := ⟨t - 96, by omega⟩
  rfl
theorem ty_check : ((List.range 96).all fun t => tyCheck Try.prog ty t) = true := by kernel_rfl
theorem ty_tab : TyTab Try.prog ty := TyTab.of 96 ty_far ty_check
theorem mixed : Try.prog.follows .mixedOrders = true := by kernel_rfl

end Go.Proofs.Ytblbbmlppmpmjaa.Pv
