/- The types of this seat, for the pure evaluator: printed by gen_ty.py. -/
import Derived.Test.YthmmgcjljfndgaaDoorPwT
import Derived.Test.YthmmgcjljfndgaaDoorProg
import Derived.KernelRfl
set_option linter.unusedVariables false
namespace Go.Proofs.YthmmgcjljfndgaaDoor.Pv
open Go

def ty : Nat → Ty
  | 1 => ⟨.func, 1, 8, [.nilf]⟩
  | 2 => ⟨.int .i64, 1, 8, [.int .i64 0]⟩
  | 3 => ⟨.int .i64, 1, 8, [.int .i64 0]⟩
  | 4 => ⟨.bool, 1, 1, [.bool false]⟩
  | 5 => ⟨.int .u8, 1, 1, [.int .u8 0]⟩
  | 6 => ⟨.int .u8, 1, 1, [.int .u8 0]⟩
  | 7 => ⟨.struct [(0, 2), (1, 3), (2, 4), (3, 6)], 4, 24, [.int .i64 0, .int .i64 0, .bool false, .int .u8 0]⟩
  | 8 => ⟨.struct [(0, 2), (1, 3), (2, 4), (3, 6)], 4, 24, [.int .i64 0, .int .i64 0, .bool false, .int .u8 0]⟩
  | 9 => ⟨.str, 1, 16, [.str []]⟩
  | 10 => ⟨.str, 1, 16, [.str []]⟩
  | 11 => ⟨.str, 1, 16, [.str []]⟩
  | 12 => ⟨.int .u64, 1, 8, [.int .u64 0]⟩
  | 13 => ⟨.struct [(0, 9), (1, 12)], 2, 24, [.str [], .int .u64 0]⟩
  | 14 => ⟨.struct [(0, 9), (1, 12)], 2, 24, [.str [], .int .u64 0]⟩
  | 15 => ⟨.ptr 64, 1, 8, [.nilp]⟩
  | 16 => ⟨.ptr 67, 1, 8, [.nilp]⟩
  | 17 => ⟨.ptr 75, 1, 8, [.nilp]⟩
  | 18 => ⟨.struct [(0, 17)], 1, 8, [.nilp]⟩
  | 19 => ⟨.struct [(0, 17)], 1, 8, [.nilp]⟩
  | 20 => ⟨.iface, 1, 16, [.nili]⟩
  | 21 => ⟨.int .i32, 1, 4, [.int .i32 0]⟩
  | 22 => ⟨.func, 1, 8, [.nilf]⟩
  | 23 => ⟨.func, 1, 8, [.nilf]⟩
  | 25 => ⟨.func, 1, 8, [.nilf]⟩
  | 26 => ⟨.func, 1, 8, [.nilf]⟩
  | 27 => ⟨.func, 1, 8, [.nilf]⟩
  | 28 => ⟨.slice 9, 1, 24, [.nils 9 1]⟩
  | 29 => ⟨.func, 1, 8, [.nilf]⟩
  | 30 => ⟨.func, 1, 8, [.nilf]⟩
  | 31 => ⟨.func, 1, 8, [.nilf]⟩
  | 32 => ⟨.func, 1, 8, [.nilf]⟩
  | 33 => ⟨.func, 1, 8, [.nilf]⟩
  | 34 => ⟨.func, 1, 8, [.nilf]⟩
  | 35 => ⟨.func, 1, 8, [.nilf]⟩
  | 37 => ⟨.func, 1, 8, [.nilf]⟩
  | 38 => ⟨.func, 1, 8, [.nilf]⟩
  | 39 => ⟨.func, 1, 8, [.nilf]⟩
  | 40 => ⟨.ptr 43, 1, 8, [.nilp]⟩
  | 41 => ⟨.slice 5, 1, 24, [.nils 5 1]⟩
  | 42 => ⟨.struct [(0, 40), (1, 41)], 2, 32, [.nilp, .nils 5 1]⟩
  | 43 => ⟨.struct [(0, 40), (1, 41)], 2, 32, [.nilp, .nils 5 1]⟩
  | 44 => ⟨.iface, 1, 16, [.nili]⟩
  | 45 => ⟨.iface, 1, 16, [.nili]⟩
  | 46 => ⟨.func, 1, 8, [.nilf]⟩
  | 47 => ⟨.func, 1, 8, [.nilf]⟩
  | 49 => ⟨.func, 1, 8, [.nilf]⟩
  | 50 => ⟨.func, 1, 8, [.nilf]⟩
  | 51 => ⟨.ptr 5, 1, 8, [.nilp]⟩
  | 53 => ⟨.func, 1, 8, [.nilf]⟩
  | 54 => ⟨.arr 256 5, 256, 256, [.int .u8 0, .int .u8 0, .int .u8 0, .int .u8 0, .int .u8 0, .int .u8 0, .int .u8 0, .int .u8 0, .int .u8 0, .int .u8 0, .int .u8 0, .int .u8 0, .int .u8 0, .int .u8 0, .int .u8 0, .int .u8 0, .int .u8 0, .int .u8 0, .int .u8 0, .int .u8 0, .int .u8 0, .int .u8 0, .int .u8 0, .int .u8 0, .int .u8 0, .int .u8 0, .int .u8 0, .int .u8 0, .int .u8 0, .int .u8 0, .int .u8 0, .int .u8 0, .int .u8 0, .int .u8 0, .int .u8 0, .int .u8 0, .int .u8 0, .int .u8 0, .int .u8 0, .int .u8 0, .int .u8 0, .int .u8 0, .int .u8 0, .int .u8 0, .int .u8 0, .int .u8 0, .int .u8 0, .int .u8 0, .int .u8 0, .int .u8 0, .int .u8 0, .int .u8 0, .int .u8 0, .int .u8 0, .int .u8 0, .int .u8 0, .int .u8 0, .int .u8 0, .int .u8 0, .int .u8 0, .int .u8 0, .int .u8 0, .int .u8 0, .int .u8 0, .int .u8 0, .int .u8 0, .int .u8 0, .int .u8 0, .int .u8 0, .int .u8 0, .int .u8 0, .int .u8 0, .int .u8 0, .int .u8 0, .int .u8 0, .int .u8 0, .int .u8 0, .int .u8 0, .int .u8 0, .int .u8 0, .int .u8 0, .int .u8 0, .int .u8 0, .int .u8 0, .int .u8 0, .int .u8 0, .int .u8 0, .int .u8 0, .int .u8 0, .int .u8 0, .int .u8 0, .int .u8 0, .int .u8 0, .int .u8 0, .int .u8 0, .int .u8 0, .int .u8 0, .int .u8 0, .int .u8 0, .int .u8 0, .int .u8 0, .int .u8 0, .int .u8 0, .int .u8 0, .int .u8 0, .int .u8 0, .int .u8 0, .int .u8 0, .int .u8 0, .int .u8 0, .int .u8 0, .int .u8 0, .int .u8 0, .int .u8 0, .int .u8 0, .int .u8 0, .int .u8 0, .int .u8 0, .int .u8 0, .int .u8 0, .int .u8 0, .int .u8 0, .int .u8 0, .int .u8 0, .int .u8 0, .int .u8 0, .int .u8 0, .int .u8 0, .int .u8 0, .int .u8 0, .int .u8 0, .int .u8 0, .int .u8 0, .int .u8 0, .int .u8 0, .int .u8 0, .int .u8 0, .int .u8 0, .int .u8 0, .int .u8 0, .int .u8 0, .int .u8 0, .int .u8 0, .int .u8 0, .int .u8 0, .int .u8 0, .int .u8 0, .int .u8 0, .int .u8 0, .int .u8 0, .int .u8 0, .int .u8 0, .int .u8 0, .int .u8 0, .int .u8 0, .int .u8 0, .int .u8 0, .int .u8 0, .int .u8 0, .int .u8 0, .int .u8 0, .int .u8 0, .int .u8 0, .int .u8 0, .int .u8 0, .int .u8 0, .int .u8 0, .int .u8 0, .int .u8 0, .int .u8 0, .int .u8 0, .int .u8 0, .int .u8 0, .int .u8 0, .int .u8 0, .int .u8 0, .int .u8 0, .int .u8 0, .int .u8 0, .int .u8 0, .int .u8 0, .int .u8 0, .int .u8 0, .int .u8 0, .int .u8 0, .int .u8 0, .int .u8 0, .int .u8 0, .int .u8 0, .int .u8 0, .int .u8 0, .int .u8 0, .int .u8 0, .int .u8 0, .int .u8 0, .int .u8 0, .int .u8 0, .int .u8 0, .int .u8 0, .int .u8 0, .int .u8 0, .int .u8 0, .int .u8 0, .int .u8 0, .int .u8 0, .int .u8 0, .int .u8 0, .int .u8 0, .int .u8 0, .int .u8 0, .int .u8 0, .int .u8 0, .int .u8 0, .int .u8 0, .int .u8 0, .int .u8 0, .int .u8 0, .int .u8 0, .int .u8 0, .int .u8 0, .int .u8 0, .int .u8 0, .int .u8 0, .int .u8 0, .int .u8 0, .int .u8 0, .int .u8 0, .int .u8 0, .int .u8 0, .int .u8 0, .int .u8 0, .int .u8 0, .int .u8 0, .int .u8 0, .int .u8 0, .int .u8 0, .int .u8 0, .int .u8 0, .int .u8 0, .int .u8 0, .int .u8 0, .int .u8 0, .int .u8 0, .int .u8 0, .int .u8 0, .int .u8 0, .int .u8 0, .int .u8 0, .int .u8 0, .int .u8 0, .int .u8 0, .int .u8 0, .int .u8 0, .int .u8 0, .int .u8 0, .int .u8 0]⟩
  | 55 => ⟨.int .u64, 1, 8, [.int .u64 0]⟩
  | 56 => ⟨.struct [(0, 5), (1, 5)], 2, 2, [.int .u8 0, .int .u8 0]⟩
  | 57 => ⟨.struct [(0, 5), (1, 5)], 2, 2, [.int .u8 0, .int .u8 0]⟩
  | 58 => ⟨.arr 16 57, 32, 32, [.int .u8 0, .int .u8 0, .int .u8 0, .int .u8 0, .int .u8 0, .int .u8 0, .int .u8 0, .int .u8 0, .int .u8 0, .int .u8 0, .int .u8 0, .int .u8 0, .int .u8 0, .int .u8 0, .int .u8 0, .int .u8 0, .int .u8 0, .int .u8 0, .int .u8 0, .int .u8 0, .int .u8 0, .int .u8 0, .int .u8 0, .int .u8 0, .int .u8 0, .int .u8 0, .int .u8 0, .int .u8 0, .int .u8 0, .int .u8 0, .int .u8 0, .int .u8 0]⟩
  | 59 => ⟨.func, 1, 8, [.nilf]⟩
  | 60 => ⟨.int .u32, 1, 4, [.int .u32 0]⟩
  | 62 => ⟨.func, 1, 8, [.nilf]⟩
  | 63 => ⟨.struct [(0, 17), (1, 17), (2, 17), (3, 9)], 4, 40, [.nilp, .nilp, .nilp, .str []]⟩
  | 64 => ⟨.struct [(0, 17), (1, 17), (2, 17), (3, 9)], 4, 40, [.nilp, .nilp, .nilp, .str []]⟩
  | 68 => ⟨.func, 1, 8, [.nilf]⟩
  | 69 => ⟨.int .u8, 1, 1, [.int .u8 0]⟩
  | 70 => ⟨.int .u8, 1, 1, [.int .u8 0]⟩
  | 71 => ⟨.func, 1, 8, [.nilf]⟩
  | 72 => ⟨.int .i32, 1, 4, [.int .i32 0]⟩
  | 73 => ⟨.int .i32, 1, 4, [.int .i32 0]⟩
  | 74 => ⟨.struct [(0, 12), (1, 12), (2, 60), (3, 69), (4, 5), (5, 5), (6, 70), (7, 71), (8, 51), (9, 72), (10, 73)], 11, 48, [.int .u64 0, .int .u64 0, .int .u32 0, .int .u8 0, .int .u8 0, .int .u8 0, .int .u8 0, .nilf, .nilp, .int .i32 0, .int .i32 0]⟩
  | 75 => ⟨.struct [(0, 12), (1, 12), (2, 60), (3, 69), (4, 5), (5, 5), (6, 70), (7, 71), (8, 51), (9, 72), (10, 73)], 11, 48, [.int .u64 0, .int .u64 0, .int .u32 0, .int .u8 0, .int .u8 0, .int .u8 0, .int .u8 0, .nilf, .nilp, .int .i32 0, .int .i32 0]⟩
  | _ => ⟨.other, 0, 0, []⟩

theorem ty_far (t : Nat) (h : 76 ≤ t) : ty t = ⟨.other, 0, 0, []⟩ := by
  obtain ⟨k, rfl⟩ : ∃ k, t = k + 76 := ⟨t - 76, by omega⟩
  rfl
theorem ty_check : ((List.range 76).all fun t => tyCheck Tryd.prog ty t) = true := by kernel_rfl
theorem ty_tab : TyTab Tryd.prog ty := TyTab.of 76 ty_far ty_check
theorem mixed : Tryd.prog.follows .mixedOrders = true := by kernel_rfl

end Go.Proofs.YthmmgcjljfndgaaDoor.Pv
