/- Functions of the program, as plain Lean functions, and that the code comes to them: printed by gen.py. -/
import Derived.Test.YtblbbmlppmpmjaaG4
set_option linter.unusedVariables false
set_option linter.unusedSimpArgs false
set_option maxHeartbeats 4000000
set_option maxRecDepth 10000
namespace Go.Proofs.Ytblbbmlppmpmjaa.Pv
open Go Go.Proofs

def utf_Put_j0 (x3_10 : Int) (x0_51 : Int) (o0_0_51 : List UInt8) : R ((List UInt8)) :=
  if 0 ≤ (IntKind.wrap .i64 (4 - x3_10)) then (if 0 ≤ 0 ∧ 0 < (((Int.toNat x3_10) : Nat) : Int) then (if 0 < List.length o0_0_51 then (if (Int.toNat x3_10) ≤ List.length (List.set o0_0_51 0 (u8 (bitsV .or .u8 ((u8 (IntKind.wrap .u8 (240 * 2 ^ (min (Int.toNat (IntKind.wrap .i64 (4 - x3_10))) 8)))).toNat : Int) ((u8 (IntKind.wrap .u8 x0_51)).toNat : Int)))) then R.ok (List.take (Int.toNat x3_10) (List.set o0_0_51 0 (u8 (bitsV .or .u8 ((u8 (IntKind.wrap .u8 (240 * 2 ^ (min (Int.toNat (IntKind.wrap .i64 (4 - x3_10))) 8)))).toNat : Int) ((u8 (IntKind.wrap .u8 x0_51)).toNat : Int))))) else R.stuck) else R.stuck) else R.stuck) else R.stuck
def utf_Put_l1 (x3_10 : Int) : Nat → Int → Int → List UInt8 → R (Int × (List UInt8))
  | 0, _, _, _ => R.stuck
  | k + 1, x0_80, x5_80, o0_0_80 => if (0 : Int) < x5_80 then (if 0 ≤ x5_80 ∧ x5_80 < (((Int.toNat x3_10) : Nat) : Int) then (if (Int.toNat x5_80) < List.length o0_0_80 then (utf_Put_l1 x3_10 k (Int.fdiv x0_80 (2 ^ (min 6 32))) (IntKind.wrap .i64 (x5_80 - 1)) (List.set o0_0_80 (Int.toNat x5_80) (u8 (bitsV .or .u8 128 ((u8 (IntKind.wrap .u8 (bitsV .and .i32 x0_80 63))).toNat : Int))))) else R.stuck) else R.stuck) else (R.ok (x0_80, o0_0_80))
def utf_Put_j2 (x0 : Int) (x3_10 : Int) : R ((List UInt8)) :=
  if 0 ≤ x3_10 ∧ x3_10 ≤ 1000000000 then ((utf_Put_l1 x3_10 Many x0 (IntKind.wrap .i64 (x3_10 - 1)) (List.replicate (Int.toNat x3_10) 0)).bind fun (x0p107, o0_0p107) => utf_Put_j0 x3_10 x0p107 o0_0p107) else R.stuck
def utf_Put (x0 : Int) : R ((List UInt8)) :=
  (if x0 < 0 then (R.ok true) else (if (1114111 : Int) < x0 then (R.ok true) else (R.ok (decide ((Int.fdiv x0 (2 ^ (min 11 32))) = 27))))).bind fun x6m111 => if x6m111 = true then (R.ok []) else (if x0 < 128 then (R.ok ([(u8 (IntKind.wrap .u8 x0))])) else (if x0 < 2048 then (utf_Put_j2 x0 2) else (if x0 < 65536 then (utf_Put_j2 x0 3) else (utf_Put_j2 x0 4))))
theorem utf_Put_call {h : H} {x0 : Int} {Q : Out → H → Prop} {KK : ((List UInt8)) → Prop} {X : V → Prop} (hq : (utf_Put x0).post KK X) (hK : ∀ r, KK r → Q (.ret (.sl 1 (List.map byteV r))) h) (hX : ∀ v, X v → V.Cl 0 v ∧ Q (.panic v) h) : CA qprim 50 [.int .i32 x0] h Q := by
  refine acalln hp Try.func50 rfl (by kernel_rfl) (n := 56) rfl (rs := [.tmp 2]) rfl [0, 2, 3, 4, 5, 6, 18, 24, 27, 35] [] true (by simp) ?_
  unfold utf_Put at hq
  simp only [initEnv, List.map_cons, List.map_nil, List.getD_cons_zero, List.getD_cons_succ, List.getD_nil, V.demote]
  rw [wp_seq]
  rw [wp_region]
  simp only [RC, RL, RM, ↓evs_eq, loadN, sliceOp, cut, upon_each, buildOk, lookup, lookV, update, elemOf, Option.isSome_map, unOp, wanted, aop, tkB, neD, Env.get, Env.put, Env.keep, putD, dstOk, ev, constV, nilSlice, V.demote, V.toOwn, V.cells, ty, R1.res, binOp, isShift, binOpT, isC, intOp, strOp, shiftOp, byteV, index, indexAddr, slice, bounds, hiB, loB, withB, maxV, minV, evs, pickV, lenV, builtin, initEnv, convert, K.isU8, strOf, load, store, fieldOf, append, appT, fltOp, cpxV, realV, imagV, toInt, room, fill, placeOf, splice, repl, chunks, Ty.val, Ty.agg, V.plain, H.row, H.ety, AObj.row, Nat.reduceAdd, ↓reduceIte, Nat.reduceEqDiff, Nat.reduceBEq, Nat.reduceBNe, Nat.reduceLT, Int.reduceToNat, Int.reduceEq, Int.reduceLT, Int.reduceLE, reduceCtorEq, Nat.reduceMul, Nat.reduceLeDiff, S_api_Token.enc]
  rw [wp_seq]
  rw [wp_region]
  simp only [RC, RL, RM, ↓evs_eq, loadN, sliceOp, cut, upon_each, buildOk, lookup, lookV, update, elemOf, Option.isSome_map, unOp, wanted, aop, tkB, neD, Env.get, Env.put, Env.keep, putD, dstOk, ev, constV, nilSlice, V.demote, V.toOwn, V.cells, ty, R1.res, binOp, isShift, binOpT, isC, intOp, strOp, shiftOp, byteV, index, indexAddr, slice, bounds, hiB, loB, withB, maxV, minV, evs, pickV, lenV, builtin, initEnv, convert, K.isU8, strOf, load, store, fieldOf, append, appT, fltOp, cpxV, realV, imagV, toInt, room, fill, placeOf, splice, repl, chunks, Ty.val, Ty.agg, V.plain, H.row, H.ety, AObj.row, Nat.reduceAdd, ↓reduceIte, Nat.reduceEqDiff, Nat.reduceBEq, Nat.reduceBNe, Nat.reduceLT, Int.reduceToNat, Int.reduceEq, Int.reduceLT, Int.reduceLE, reduceCtorEq, Nat.reduceMul, Nat.reduceLeDiff, S_api_Token.enc]
  refine seq_gen (acall_mono hp) (σ := V × Int × V × V × V × V) (fun s => [(0, .int .i32 x0), (2, s.1), (3, .int .i64 s.2.1), (4, .top), (5, .top), (6, s.2.2.1), (18, s.2.2.2.1), (24, s.2.2.2.2.1), (27, s.2.2.2.2.2), (35, .top)]) (fun s => h) (fun s => (utf_Put_j2 x0 s.2.1).post KK X) (fun s hq => ?_) (fun N hN108 => ?_)
  · obtain ⟨y2_10, x3_10, y6_10, y18_10, y24_10, y27_10⟩ := s
    try dsimp only at hq ⊢
    unfold utf_Put_j2 at hq
    rw [wp_seq]
    rw [wp_region]
    obtain ⟨g13, hq⟩ := R.guard hq
    have e14 : repl [.int .u8 0] (Int.toNat x3_10) = List.map byteV (List.replicate (Int.toNat x3_10) 0) := repl_map (f := byteV) (x := 0) (n := (Int.toNat x3_10))
    simp only [e14, RC, RL, RM, ↓evs_eq, loadN, sliceOp, cut, upon_each, buildOk, lookup, lookV, update, elemOf, Option.isSome_map, unOp, wanted, aop, tkB, neD, Env.get, Env.put, Env.keep, putD, dstOk, ev, constV, nilSlice, V.demote, V.toOwn, V.cells, ty, R1.res, binOp, isShift, binOpT, isC, intOp, strOp, shiftOp, byteV, index, indexAddr, slice, bounds, hiB, loB, withB, maxV, minV, evs, pickV, lenV, builtin, initEnv, convert, K.isU8, strOf, load, store, fieldOf, append, appT, fltOp, cpxV, realV, imagV, toInt, room, fill, placeOf, splice, repl, chunks, Ty.val, Ty.agg, V.plain, H.row, H.ety, AObj.row, Nat.reduceAdd, ↓reduceIte, Nat.reduceEqDiff, Nat.reduceBEq, Nat.reduceBNe, Nat.reduceLT, Int.reduceToNat, Int.reduceEq, Int.reduceLT, Int.reduceLE, reduceCtorEq, Nat.reduceMul, Nat.reduceLeDiff, S_api_Token.enc]
    repeat (with_reducible refine And.intro (by first | omega | assumption) ?_)
    refine seq_gen (acall_mono hp) (σ := Int × V × V × V × V × V × V × V × (List UInt8)) (fun s => [(0, .int .i32 s.1), (2, s.2.1), (3, .int .i64 x3_10), (4, .msl h.length 0 (Int.toNat x3_10) 1), (5, s.2.2.1), (6, s.2.2.2.1), (18, s.2.2.2.2.1), (24, s.2.2.2.2.2.1), (27, s.2.2.2.2.2.2.1), (35, s.2.2.2.2.2.2.2.1)]) (fun s => h ++ [.cells 5 (List.map byteV s.2.2.2.2.2.2.2.2)]) (fun s => (utf_Put_j0 x3_10 s.1 s.2.2.2.2.2.2.2.2).post KK X) (fun s hq => ?_) (fun N hN67 => ?_)
    · obtain ⟨x0_51, y2_51, y5_51, y6_51, y18_51, y24_51, y27_51, y35_51, o0_0_51⟩ := s
      try dsimp only at hq ⊢
      unfold utf_Put_j0 at hq
      rw [wp_seq]
      rw [wp_region]
      obtain ⟨g59, hq⟩ := R.guard hq
      obtain ⟨g63, hq⟩ := R.guard hq
      obtain ⟨g64, hq⟩ := R.guard hq
      have e60 := u8_fix (n := (IntKind.wrap .u8 (240 * 2 ^ (min (Int.toNat (IntKind.wrap .i64 (4 - x3_10))) 8)))) (wrap_u8 _)
      have e61 := u8_fix (n := (IntKind.wrap .u8 x0_51)) (wrap_u8 _)
      have e62 := u8_fix (n := (bitsV .or .u8 ((u8 (IntKind.wrap .u8 (240 * 2 ^ (min (Int.toNat (IntKind.wrap .i64 (4 - x3_10))) 8)))).toNat : Int) ((u8 (IntKind.wrap .u8 x0_51)).toNat : Int))) (bits_u8 _ _ _)
      have e65 : (.int .u8 ((u8 (bitsV .or .u8 ((u8 (IntKind.wrap .u8 (240 * 2 ^ (min (Int.toNat (IntKind.wrap .i64 (4 - x3_10))) 8)))).toNat : Int) ((u8 (IntKind.wrap .u8 x0_51)).toNat : Int))).toNat : Int)) :: List.map byteV (List.drop 1 o0_0_51) = List.map byteV (List.set o0_0_51 0 (u8 (bitsV .or .u8 ((u8 (IntKind.wrap .u8 (240 * 2 ^ (min (Int.toNat (IntKind.wrap .i64 (4 - x3_10))) 8)))).toNat : Int) ((u8 (IntKind.wrap .u8 x0_51)).toNat : Int)))) := set_map0 (f := byteV) (l := o0_0_51) (x := (u8 (bitsV .or .u8 ((u8 (IntKind.wrap .u8 (240 * 2 ^ (min (Int.toNat (IntKind.wrap .i64 (4 - x3_10))) 8)))).toNat : Int) ((u8 (IntKind.wrap .u8 x0_51)).toNat : Int)))) g64
      simp only [e60, e61, e62, e65, RC, RL, RM, ↓evs_eq, loadN, sliceOp, cut, upon_each, buildOk, lookup, lookV, update, elemOf, Option.isSome_map, unOp, wanted, aop, tkB, neD, Env.get, Env.put, Env.keep, putD, dstOk, ev, constV, nilSlice, V.demote, V.toOwn, V.cells, ty, R1.res, binOp, isShift, binOpT, isC, intOp, strOp, shiftOp, byteV, index, indexAddr, slice, bounds, hiB, loB, withB, maxV, minV, evs, pickV, lenV, builtin, initEnv, convert, K.isU8, strOf, load, store, fieldOf, append, appT, fltOp, cpxV, realV, imagV, toInt, room, fill, placeOf, splice, repl, chunks, Ty.val, Ty.agg, V.plain, H.row, H.ety, AObj.row, Nat.reduceAdd, ↓reduceIte, Nat.reduceEqDiff, Nat.reduceBEq, Nat.reduceBNe, Nat.reduceLT, Int.reduceToNat, Int.reduceEq, Int.reduceLT, Int.reduceLE, reduceCtorEq, Nat.reduceMul, Nat.reduceLeDiff, S_api_Token.enc]
      repeat (with_reducible refine And.intro (by first | omega | assumption) ?_)
      rw [wp_seq]
      rw [wp_region]
      simp only [RC, RL, RM, ↓evs_eq, loadN, sliceOp, cut, upon_each, buildOk, lookup, lookV, update, elemOf, Option.isSome_map, unOp, wanted, aop, tkB, neD, Env.get, Env.put, Env.keep, putD, dstOk, ev, constV, nilSlice, V.demote, V.toOwn, V.cells, ty, R1.res, binOp, isShift, binOpT, isC, intOp, strOp, shiftOp, byteV, index, indexAddr, slice, bounds, hiB, loB, withB, maxV, minV, evs, pickV, lenV, builtin, initEnv, convert, K.isU8, strOf, load, store, fieldOf, append, appT, fltOp, cpxV, realV, imagV, toInt, room, fill, placeOf, splice, repl, chunks, Ty.val, Ty.agg, V.plain, H.row, H.ety, AObj.row, Nat.reduceAdd, ↓reduceIte, Nat.reduceEqDiff, Nat.reduceBEq, Nat.reduceBNe, Nat.reduceLT, Int.reduceToNat, Int.reduceEq, Int.reduceLT, Int.reduceLE, reduceCtorEq, Nat.reduceMul, Nat.reduceLeDiff, S_api_Token.enc]
      rw [wp_ret]
      obtain ⟨g66, hq⟩ := R.guard hq
      simp only [retQ, results, resultAll, resultOne, Nat.zero_add, RC, RL, RM, ↓evs_eq, loadN, sliceOp, cut, upon_each, buildOk, lookup, lookV, update, elemOf, Option.isSome_map, unOp, wanted, aop, tkB, neD, Env.get, Env.put, Env.keep, putD, dstOk, ev, constV, nilSlice, V.demote, V.toOwn, V.cells, ty, R1.res, binOp, isShift, binOpT, isC, intOp, strOp, shiftOp, byteV, index, indexAddr, slice, bounds, hiB, loB, withB, maxV, minV, evs, pickV, lenV, builtin, initEnv, convert, K.isU8, strOf, load, store, fieldOf, append, appT, fltOp, cpxV, realV, imagV, toInt, room, fill, placeOf, splice, repl, chunks, Ty.val, Ty.agg, V.plain, H.row, H.ety, AObj.row, Nat.reduceAdd, ↓reduceIte, Nat.reduceEqDiff, Nat.reduceBEq, Nat.reduceBNe, Nat.reduceLT, Int.reduceToNat, Int.reduceEq, Int.reduceLT, Int.reduceLE, reduceCtorEq, Nat.reduceMul, Nat.reduceLeDiff, S_api_Token.enc]
      refine ⟨_, (.refl _), ?_⟩
      refine leave_row (f := byteV) (l := (List.set o0_0_51 0 (u8 (bitsV .or .u8 ((u8 (IntKind.wrap .u8 (240 * 2 ^ (min (Int.toNat (IntKind.wrap .i64 (4 - x3_10))) 8)))).toNat : Int) ((u8 (IntKind.wrap .u8 x0_51)).toNat : Int))))) (n := (Int.toNat x3_10)) (by simp only [RC, RL, RM, ↓evs_eq, loadN, sliceOp, cut, upon_each, buildOk, lookup, lookV, update, elemOf, Option.isSome_map, unOp, wanted, aop, tkB, neD, Env.get, Env.put, Env.keep, putD, dstOk, ev, constV, nilSlice, V.demote, V.toOwn, V.cells, ty, R1.res, binOp, isShift, binOpT, isC, intOp, strOp, shiftOp, byteV, index, indexAddr, slice, bounds, hiB, loB, withB, maxV, minV, evs, pickV, lenV, builtin, initEnv, convert, K.isU8, strOf, load, store, fieldOf, append, appT, fltOp, cpxV, realV, imagV, toInt, room, fill, placeOf, splice, repl, chunks, Ty.val, Ty.agg, V.plain, H.row, H.ety, AObj.row, Nat.reduceAdd, ↓reduceIte, Nat.reduceEqDiff, Nat.reduceBEq, Nat.reduceBNe, Nat.reduceLT, Int.reduceToNat, Int.reduceEq, Int.reduceLT, Int.reduceLE, reduceCtorEq, Nat.reduceMul, Nat.reduceLeDiff, S_api_Token.enc]) g66 (by omega) (fun x => cl_byte x) (by intro x; rfl) ?_
      exact hK _ hq
    · rw [wp_seq]
      rw [wp_region]
      simp only [RC, RL, RM, ↓evs_eq, loadN, sliceOp, cut, upon_each, buildOk, lookup, lookV, update, elemOf, Option.isSome_map, unOp, wanted, aop, tkB, neD, Env.get, Env.put, Env.keep, putD, dstOk, ev, constV, nilSlice, V.demote, V.toOwn, V.cells, ty, R1.res, binOp, isShift, binOpT, isC, intOp, strOp, shiftOp, byteV, index, indexAddr, slice, bounds, hiB, loB, withB, maxV, minV, evs, pickV, lenV, builtin, initEnv, convert, K.isU8, strOf, load, store, fieldOf, append, appT, fltOp, cpxV, realV, imagV, toInt, room, fill, placeOf, splice, repl, chunks, Ty.val, Ty.agg, V.plain, H.row, H.ety, AObj.row, Nat.reduceAdd, ↓reduceIte, Nat.reduceEqDiff, Nat.reduceBEq, Nat.reduceBNe, Nat.reduceLT, Int.reduceToNat, Int.reduceEq, Int.reduceLT, Int.reduceLE, reduceCtorEq, Nat.reduceMul, Nat.reduceLeDiff, S_api_Token.enc]
      rw [wp_block]
      refine loop_in ?_
      refine Wk.same ?_
      obtain ⟨K92, hK93, hq⟩ := R.post_cut hq
      refine loop_gen (acall_mono hp) (σ := Int × Int × V × (List UInt8)) (fun s => [(0, .int .i32 s.1), (2, y2_10), (3, .int .i64 x3_10), (4, .msl h.length 0 (Int.toNat x3_10) 1), (5, .int .i64 s.2.1), (6, y6_10), (18, y18_10), (24, y24_10), (27, y27_10), (35, s.2.2.1)]) (fun s => h ++ [.cells 5 (List.map byteV s.2.2.2)]) (fun k s => (utf_Put_l1 x3_10 k s.1 s.2.1 s.2.2.2).post K92 X) (fun s hs => hs) (fun k106 s hq N hN94 => ?_) _ (x0, (IntKind.wrap .i64 (x3_10 - 1)), _, (List.replicate (Int.toNat x3_10) 0)) hq
      obtain ⟨x0_80, x5_80, y35_80, o0_0_80⟩ := s
      try dsimp only at hq ⊢
      rw [utf_Put_l1] at hq
      rw [wp_seq]
      rw [wp_seq]
      rw [wp_region]
      simp only [RC, RL, RM, ↓evs_eq, loadN, sliceOp, cut, upon_each, buildOk, lookup, lookV, update, elemOf, Option.isSome_map, unOp, wanted, aop, tkB, neD, Env.get, Env.put, Env.keep, putD, dstOk, ev, constV, nilSlice, V.demote, V.toOwn, V.cells, ty, R1.res, binOp, isShift, binOpT, isC, intOp, strOp, shiftOp, byteV, index, indexAddr, slice, bounds, hiB, loB, withB, maxV, minV, evs, pickV, lenV, builtin, initEnv, convert, K.isU8, strOf, load, store, fieldOf, append, appT, fltOp, cpxV, realV, imagV, toInt, room, fill, placeOf, splice, repl, chunks, Ty.val, Ty.agg, V.plain, H.row, H.ety, AObj.row, Nat.reduceAdd, ↓reduceIte, Nat.reduceEqDiff, Nat.reduceBEq, Nat.reduceBNe, Nat.reduceLT, Int.reduceToNat, Int.reduceEq, Int.reduceLT, Int.reduceLE, reduceCtorEq, Nat.reduceMul, Nat.reduceLeDiff, S_api_Token.enc]
      rw [wp_cond]
      simp only [RC, RL, RM, ↓evs_eq, loadN, sliceOp, cut, upon_each, buildOk, lookup, lookV, update, elemOf, Option.isSome_map, unOp, wanted, aop, tkB, neD, Env.get, Env.put, Env.keep, putD, dstOk, ev, constV, nilSlice, V.demote, V.toOwn, V.cells, ty, R1.res, binOp, isShift, binOpT, isC, intOp, strOp, shiftOp, byteV, index, indexAddr, slice, bounds, hiB, loB, withB, maxV, minV, evs, pickV, lenV, builtin, initEnv, convert, K.isU8, strOf, load, store, fieldOf, append, appT, fltOp, cpxV, realV, imagV, toInt, room, fill, placeOf, splice, repl, chunks, Ty.val, Ty.agg, V.plain, H.row, H.ety, AObj.row, Nat.reduceAdd, ↓reduceIte, Nat.reduceEqDiff, Nat.reduceBEq, Nat.reduceBNe, Nat.reduceLT, Int.reduceToNat, Int.reduceEq, Int.reduceLT, Int.reduceLE, reduceCtorEq, Nat.reduceMul, Nat.reduceLeDiff, S_api_Token.enc]
      by_cases hc95 : (0 : Int) < x5_80
      · replace hq := (R.post_if hq).1 hc95
        refine condK_t (congrArg V.bool (decide_eq_true hc95)) ?_
        try simp only [wp_skip, RC]
        refine Wk.same ?_
        try simp only [RC]
        rw [wp_seq]
        rw [wp_block]
        rw [wp_seq]
        rw [wp_region]
        obtain ⟨g103, hq⟩ := R.guard hq
        obtain ⟨g104, hq⟩ := R.guard hq
        have e101 := u8_fix (n := (IntKind.wrap .u8 (bitsV .and .i32 x0_80 63))) (wrap_u8 _)
        have e102 := u8_fix (n := (bitsV .or .u8 128 ((u8 (IntKind.wrap .u8 (bitsV .and .i32 x0_80 63))).toNat : Int))) (bits_u8 _ _ _)
        have e105 : List.map byteV (List.take (Int.toNat x5_80) o0_0_80) ++ (.int .u8 ((u8 (bitsV .or .u8 128 ((u8 (IntKind.wrap .u8 (bitsV .and .i32 x0_80 63))).toNat : Int))).toNat : Int)) :: List.map byteV (List.drop ((Int.toNat x5_80) + 1) o0_0_80) = List.map byteV (List.set o0_0_80 (Int.toNat x5_80) (u8 (bitsV .or .u8 128 ((u8 (IntKind.wrap .u8 (bitsV .and .i32 x0_80 63))).toNat : Int)))) := set_map (f := byteV) (l := o0_0_80) (x := (u8 (bitsV .or .u8 128 ((u8 (IntKind.wrap .u8 (bitsV .and .i32 x0_80 63))).toNat : Int)))) (n := (Int.toNat x5_80)) g104
        simp only [e101, e102, e105, RC, RL, RM, ↓evs_eq, loadN, sliceOp, cut, upon_each, buildOk, lookup, lookV, update, elemOf, Option.isSome_map, unOp, wanted, aop, tkB, neD, Env.get, Env.put, Env.keep, putD, dstOk, ev, constV, nilSlice, V.demote, V.toOwn, V.cells, ty, R1.res, binOp, isShift, binOpT, isC, intOp, strOp, shiftOp, byteV, index, indexAddr, slice, bounds, hiB, loB, withB, maxV, minV, evs, pickV, lenV, builtin, initEnv, convert, K.isU8, strOf, load, store, fieldOf, append, appT, fltOp, cpxV, realV, imagV, toInt, room, fill, placeOf, splice, repl, chunks, Ty.val, Ty.agg, V.plain, H.row, H.ety, AObj.row, Nat.reduceAdd, ↓reduceIte, Nat.reduceEqDiff, Nat.reduceBEq, Nat.reduceBNe, Nat.reduceLT, Int.reduceToNat, Int.reduceEq, Int.reduceLT, Int.reduceLE, reduceCtorEq, Nat.reduceMul, Nat.reduceLeDiff, S_api_Token.enc]
        repeat (with_reducible refine And.intro (by first | omega | assumption) ?_)
        rw [wp_region]
        simp only [RC, RL, RM, ↓evs_eq, loadN, sliceOp, cut, upon_each, buildOk, lookup, lookV, update, elemOf, Option.isSome_map, unOp, wanted, aop, tkB, neD, Env.get, Env.put, Env.keep, putD, dstOk, ev, constV, nilSlice, V.demote, V.toOwn, V.cells, ty, R1.res, binOp, isShift, binOpT, isC, intOp, strOp, shiftOp, byteV, index, indexAddr, slice, bounds, hiB, loB, withB, maxV, minV, evs, pickV, lenV, builtin, initEnv, convert, K.isU8, strOf, load, store, fieldOf, append, appT, fltOp, cpxV, realV, imagV, toInt, room, fill, placeOf, splice, repl, chunks, Ty.val, Ty.agg, V.plain, H.row, H.ety, AObj.row, Nat.reduceAdd, ↓reduceIte, Nat.reduceEqDiff, Nat.reduceBEq, Nat.reduceBNe, Nat.reduceLT, Int.reduceToNat, Int.reduceEq, Int.reduceLT, Int.reduceLE, reduceCtorEq, Nat.reduceMul, Nat.reduceLeDiff, S_api_Token.enc]
        refine Wk.same ?_
        try simp only [RC]
        rw [wp_region]
        simp only [RC, RL, RM, ↓evs_eq, loadN, sliceOp, cut, upon_each, buildOk, lookup, lookV, update, elemOf, Option.isSome_map, unOp, wanted, aop, tkB, neD, Env.get, Env.put, Env.keep, putD, dstOk, ev, constV, nilSlice, V.demote, V.toOwn, V.cells, ty, R1.res, binOp, isShift, binOpT, isC, intOp, strOp, shiftOp, byteV, index, indexAddr, slice, bounds, hiB, loB, withB, maxV, minV, evs, pickV, lenV, builtin, initEnv, convert, K.isU8, strOf, load, store, fieldOf, append, appT, fltOp, cpxV, realV, imagV, toInt, room, fill, placeOf, splice, repl, chunks, Ty.val, Ty.agg, V.plain, H.row, H.ety, AObj.row, Nat.reduceAdd, ↓reduceIte, Nat.reduceEqDiff, Nat.reduceBEq, Nat.reduceBNe, Nat.reduceLT, Int.reduceToNat, Int.reduceEq, Int.reduceLT, Int.reduceLE, reduceCtorEq, Nat.reduceMul, Nat.reduceLeDiff, S_api_Token.enc]
        refine Wk.le (EnvLe.cons (.refl _) (EnvLe.cons (.refl _) (EnvLe.cons (.refl _) (EnvLe.cons (.refl _) (EnvLe.cons (.refl _) (EnvLe.cons (.refl _) (EnvLe.cons (.refl _) (EnvLe.cons (.refl _) (EnvLe.cons (.refl _) (EnvLe.cons (.top _) EnvLe.nil)))))))))) ?_
        exact hN94 ((Int.fdiv x0_80 (2 ^ (min 6 32))), (IntKind.wrap .i64 (x5_80 - 1)), _, (List.set o0_0_80 (Int.toNat x5_80) (u8 (bitsV .or .u8 128 ((u8 (IntKind.wrap .u8 (bitsV .and .i32 x0_80 63))).toNat : Int))))) hq
      · replace hq := (R.post_if hq).2 hc95
        refine condK_f (congrArg V.bool (decide_eq_false hc95)) ?_
        rw [wp_exit]
        try simp only [↓reduceIte, Nat.reduceEqDiff, reduceCtorEq, if_false, if_true, eq_self, Nat.succ_ne_self, RC]
        replace hq := hK93 _ hq
        try dsimp only at hq
        refine Wk.le (EnvLe.cons (.refl _) (EnvLe.cons (.refl _) (EnvLe.cons (.refl _) (EnvLe.cons (.refl _) (EnvLe.cons (.top _) (EnvLe.cons (.refl _) (EnvLe.cons (.refl _) (EnvLe.cons (.refl _) (EnvLe.cons (.refl _) (EnvLe.cons (.top _) EnvLe.nil)))))))))) ?_
        try simp only [RC]
        exact hN67 (x0_80, _, _, _, _, _, _, _, o0_0_80) hq
  · rw [wp_block]
    obtain ⟨K112, hK113, hq⟩ := R.post_cut hq
    refine seq_gen (acall_mono hp) (σ := Bool) (fun s => [(0, .int .i32 x0), (2, .own 5 1 []), (3, .int .i64 4), (4, .top), (5, .top), (6, .bool s), (18, .top), (24, .top), (27, .top), (35, .top)]) (fun s => h) (fun s => K112 s) (fun x6m111 hq => ?_) (fun N hN114 => ?_)
    · replace hq := hK113 _ hq
      try dsimp only at hq ⊢
      rw [wp_cond]
      simp only [RC, RL, RM, ↓evs_eq, loadN, sliceOp, cut, upon_each, buildOk, lookup, lookV, update, elemOf, Option.isSome_map, unOp, wanted, aop, tkB, neD, Env.get, Env.put, Env.keep, putD, dstOk, ev, constV, nilSlice, V.demote, V.toOwn, V.cells, ty, R1.res, binOp, isShift, binOpT, isC, intOp, strOp, shiftOp, byteV, index, indexAddr, slice, bounds, hiB, loB, withB, maxV, minV, evs, pickV, lenV, builtin, initEnv, convert, K.isU8, strOf, load, store, fieldOf, append, appT, fltOp, cpxV, realV, imagV, toInt, room, fill, placeOf, splice, repl, chunks, Ty.val, Ty.agg, V.plain, H.row, H.ety, AObj.row, Nat.reduceAdd, ↓reduceIte, Nat.reduceEqDiff, Nat.reduceBEq, Nat.reduceBNe, Nat.reduceLT, Int.reduceToNat, Int.reduceEq, Int.reduceLT, Int.reduceLE, reduceCtorEq, Nat.reduceMul, Nat.reduceLeDiff, S_api_Token.enc]
      by_cases hc117 : x6m111 = true
      · replace hq := (R.post_if hq).1 hc117
        refine condK_t (congrArg V.bool (hc117)) ?_
        rw [wp_seq]
        rw [wp_region]
        simp only [RC, RL, RM, ↓evs_eq, loadN, sliceOp, cut, upon_each, buildOk, lookup, lookV, update, elemOf, Option.isSome_map, unOp, wanted, aop, tkB, neD, Env.get, Env.put, Env.keep, putD, dstOk, ev, constV, nilSlice, V.demote, V.toOwn, V.cells, ty, R1.res, binOp, isShift, binOpT, isC, intOp, strOp, shiftOp, byteV, index, indexAddr, slice, bounds, hiB, loB, withB, maxV, minV, evs, pickV, lenV, builtin, initEnv, convert, K.isU8, strOf, load, store, fieldOf, append, appT, fltOp, cpxV, realV, imagV, toInt, room, fill, placeOf, splice, repl, chunks, Ty.val, Ty.agg, V.plain, H.row, H.ety, AObj.row, Nat.reduceAdd, ↓reduceIte, Nat.reduceEqDiff, Nat.reduceBEq, Nat.reduceBNe, Nat.reduceLT, Int.reduceToNat, Int.reduceEq, Int.reduceLT, Int.reduceLE, reduceCtorEq, Nat.reduceMul, Nat.reduceLeDiff, S_api_Token.enc]
        rw [wp_ret]
        simp only [retQ, results, resultAll, resultOne, Nat.zero_add, RC, RL, RM, ↓evs_eq, loadN, sliceOp, cut, upon_each, buildOk, lookup, lookV, update, elemOf, Option.isSome_map, unOp, wanted, aop, tkB, neD, Env.get, Env.put, Env.keep, putD, dstOk, ev, constV, nilSlice, V.demote, V.toOwn, V.cells, ty, R1.res, binOp, isShift, binOpT, isC, intOp, strOp, shiftOp, byteV, index, indexAddr, slice, bounds, hiB, loB, withB, maxV, minV, evs, pickV, lenV, builtin, initEnv, convert, K.isU8, strOf, load, store, fieldOf, append, appT, fltOp, cpxV, realV, imagV, toInt, room, fill, placeOf, splice, repl, chunks, Ty.val, Ty.agg, V.plain, H.row, H.ety, AObj.row, Nat.reduceAdd, ↓reduceIte, Nat.reduceEqDiff, Nat.reduceBEq, Nat.reduceBNe, Nat.reduceLT, Int.reduceToNat, Int.reduceEq, Int.reduceLT, Int.reduceLE, reduceCtorEq, Nat.reduceMul, Nat.reduceLeDiff, S_api_Token.enc]
        refine ⟨_, (.osl _ _ _), ?_⟩
        refine leave_ok0 rfl (.sl _ _ cl_nil) ?_
        exact hK _ hq
      · replace hq := (R.post_if hq).2 hc117
        replace hc117 := eq_false_of_ne_true hc117
        refine condK_f (congrArg V.bool (hc117)) ?_
        rw [wp_seq]
        rw [wp_region]
        simp only [RC, RL, RM, ↓evs_eq, loadN, sliceOp, cut, upon_each, buildOk, lookup, lookV, update, elemOf, Option.isSome_map, unOp, wanted, aop, tkB, neD, Env.get, Env.put, Env.keep, putD, dstOk, ev, constV, nilSlice, V.demote, V.toOwn, V.cells, ty, R1.res, binOp, isShift, binOpT, isC, intOp, strOp, shiftOp, byteV, index, indexAddr, slice, bounds, hiB, loB, withB, maxV, minV, evs, pickV, lenV, builtin, initEnv, convert, K.isU8, strOf, load, store, fieldOf, append, appT, fltOp, cpxV, realV, imagV, toInt, room, fill, placeOf, splice, repl, chunks, Ty.val, Ty.agg, V.plain, H.row, H.ety, AObj.row, Nat.reduceAdd, ↓reduceIte, Nat.reduceEqDiff, Nat.reduceBEq, Nat.reduceBNe, Nat.reduceLT, Int.reduceToNat, Int.reduceEq, Int.reduceLT, Int.reduceLE, reduceCtorEq, Nat.reduceMul, Nat.reduceLeDiff, S_api_Token.enc]
        rw [wp_cond]
        simp only [RC, RL, RM, ↓evs_eq, loadN, sliceOp, cut, upon_each, buildOk, lookup, lookV, update, elemOf, Option.isSome_map, unOp, wanted, aop, tkB, neD, Env.get, Env.put, Env.keep, putD, dstOk, ev, constV, nilSlice, V.demote, V.toOwn, V.cells, ty, R1.res, binOp, isShift, binOpT, isC, intOp, strOp, shiftOp, byteV, index, indexAddr, slice, bounds, hiB, loB, withB, maxV, minV, evs, pickV, lenV, builtin, initEnv, convert, K.isU8, strOf, load, store, fieldOf, append, appT, fltOp, cpxV, realV, imagV, toInt, room, fill, placeOf, splice, repl, chunks, Ty.val, Ty.agg, V.plain, H.row, H.ety, AObj.row, Nat.reduceAdd, ↓reduceIte, Nat.reduceEqDiff, Nat.reduceBEq, Nat.reduceBNe, Nat.reduceLT, Int.reduceToNat, Int.reduceEq, Int.reduceLT, Int.reduceLE, reduceCtorEq, Nat.reduceMul, Nat.reduceLeDiff, S_api_Token.enc]
        by_cases hc118 : x0 < 128
        · replace hq := (R.post_if hq).1 hc118
          refine condK_t (congrArg V.bool (decide_eq_true hc118)) ?_
          rw [wp_seq]
          rw [wp_region]
          have e120 := u8_fix (n := (IntKind.wrap .u8 x0)) (wrap_u8 _)
          simp only [e120, RC, RL, RM, ↓evs_eq, loadN, sliceOp, cut, upon_each, buildOk, lookup, lookV, update, elemOf, Option.isSome_map, unOp, wanted, aop, tkB, neD, Env.get, Env.put, Env.keep, putD, dstOk, ev, constV, nilSlice, V.demote, V.toOwn, V.cells, ty, R1.res, binOp, isShift, binOpT, isC, intOp, strOp, shiftOp, byteV, index, indexAddr, slice, bounds, hiB, loB, withB, maxV, minV, evs, pickV, lenV, builtin, initEnv, convert, K.isU8, strOf, load, store, fieldOf, append, appT, fltOp, cpxV, realV, imagV, toInt, room, fill, placeOf, splice, repl, chunks, Ty.val, Ty.agg, V.plain, H.row, H.ety, AObj.row, Nat.reduceAdd, ↓reduceIte, Nat.reduceEqDiff, Nat.reduceBEq, Nat.reduceBNe, Nat.reduceLT, Int.reduceToNat, Int.reduceEq, Int.reduceLT, Int.reduceLE, reduceCtorEq, Nat.reduceMul, Nat.reduceLeDiff, S_api_Token.enc]
          rw [wp_ret]
          simp only [retQ, results, resultAll, resultOne, Nat.zero_add, RC, RL, RM, ↓evs_eq, loadN, sliceOp, cut, upon_each, buildOk, lookup, lookV, update, elemOf, Option.isSome_map, unOp, wanted, aop, tkB, neD, Env.get, Env.put, Env.keep, putD, dstOk, ev, constV, nilSlice, V.demote, V.toOwn, V.cells, ty, R1.res, binOp, isShift, binOpT, isC, intOp, strOp, shiftOp, byteV, index, indexAddr, slice, bounds, hiB, loB, withB, maxV, minV, evs, pickV, lenV, builtin, initEnv, convert, K.isU8, strOf, load, store, fieldOf, append, appT, fltOp, cpxV, realV, imagV, toInt, room, fill, placeOf, splice, repl, chunks, Ty.val, Ty.agg, V.plain, H.row, H.ety, AObj.row, Nat.reduceAdd, ↓reduceIte, Nat.reduceEqDiff, Nat.reduceBEq, Nat.reduceBNe, Nat.reduceLT, Int.reduceToNat, Int.reduceEq, Int.reduceLT, Int.reduceLE, reduceCtorEq, Nat.reduceMul, Nat.reduceLeDiff, S_api_Token.enc]
          refine ⟨_, (.refl _), ?_⟩
          refine leave_ok0 rfl (.sl _ _ (cl_cons (.int _ _) cl_nil)) ?_
          exact hK _ hq
        · replace hq := (R.post_if hq).2 hc118
          refine condK_f (congrArg V.bool (decide_eq_false hc118)) ?_
          rw [wp_seq]
          rw [wp_region]
          simp only [RC, RL, RM, ↓evs_eq, loadN, sliceOp, cut, upon_each, buildOk, lookup, lookV, update, elemOf, Option.isSome_map, unOp, wanted, aop, tkB, neD, Env.get, Env.put, Env.keep, putD, dstOk, ev, constV, nilSlice, V.demote, V.toOwn, V.cells, ty, R1.res, binOp, isShift, binOpT, isC, intOp, strOp, shiftOp, byteV, index, indexAddr, slice, bounds, hiB, loB, withB, maxV, minV, evs, pickV, lenV, builtin, initEnv, convert, K.isU8, strOf, load, store, fieldOf, append, appT, fltOp, cpxV, realV, imagV, toInt, room, fill, placeOf, splice, repl, chunks, Ty.val, Ty.agg, V.plain, H.row, H.ety, AObj.row, Nat.reduceAdd, ↓reduceIte, Nat.reduceEqDiff, Nat.reduceBEq, Nat.reduceBNe, Nat.reduceLT, Int.reduceToNat, Int.reduceEq, Int.reduceLT, Int.reduceLE, reduceCtorEq, Nat.reduceMul, Nat.reduceLeDiff, S_api_Token.enc]
          rw [wp_cond]
          simp only [RC, RL, RM, ↓evs_eq, loadN, sliceOp, cut, upon_each, buildOk, lookup, lookV, update, elemOf, Option.isSome_map, unOp, wanted, aop, tkB, neD, Env.get, Env.put, Env.keep, putD, dstOk, ev, constV, nilSlice, V.demote, V.toOwn, V.cells, ty, R1.res, binOp, isShift, binOpT, isC, intOp, strOp, shiftOp, byteV, index, indexAddr, slice, bounds, hiB, loB, withB, maxV, minV, evs, pickV, lenV, builtin, initEnv, convert, K.isU8, strOf, load, store, fieldOf, append, appT, fltOp, cpxV, realV, imagV, toInt, room, fill, placeOf, splice, repl, chunks, Ty.val, Ty.agg, V.plain, H.row, H.ety, AObj.row, Nat.reduceAdd, ↓reduceIte, Nat.reduceEqDiff, Nat.reduceBEq, Nat.reduceBNe, Nat.reduceLT, Int.reduceToNat, Int.reduceEq, Int.reduceLT, Int.reduceLE, reduceCtorEq, Nat.reduceMul, Nat.reduceLeDiff, S_api_Token.enc]
          by_cases hc121 : x0 < 2048
          · replace hq := (R.post_if hq).1 hc121
            refine condK_t (congrArg V.bool (decide_eq_true hc121)) ?_
            rw [wp_region]
            simp only [RC, RL, RM, ↓evs_eq, loadN, sliceOp, cut, upon_each, buildOk, lookup, lookV, update, elemOf, Option.isSome_map, unOp, wanted, aop, tkB, neD, Env.get, Env.put, Env.keep, putD, dstOk, ev, constV, nilSlice, V.demote, V.toOwn, V.cells, ty, R1.res, binOp, isShift, binOpT, isC, intOp, strOp, shiftOp, byteV, index, indexAddr, slice, bounds, hiB, loB, withB, maxV, minV, evs, pickV, lenV, builtin, initEnv, convert, K.isU8, strOf, load, store, fieldOf, append, appT, fltOp, cpxV, realV, imagV, toInt, room, fill, placeOf, splice, repl, chunks, Ty.val, Ty.agg, V.plain, H.row, H.ety, AObj.row, Nat.reduceAdd, ↓reduceIte, Nat.reduceEqDiff, Nat.reduceBEq, Nat.reduceBNe, Nat.reduceLT, Int.reduceToNat, Int.reduceEq, Int.reduceLT, Int.reduceLE, reduceCtorEq, Nat.reduceMul, Nat.reduceLeDiff, S_api_Token.enc]
            refine Wk.le (EnvLe.cons (.refl _) (EnvLe.cons (.top _) (EnvLe.cons (.refl _) (EnvLe.cons (.refl _) (EnvLe.cons (.refl _) (EnvLe.cons (.top _) (EnvLe.cons (.top _) (EnvLe.cons (.top _) (EnvLe.cons (.refl _) (EnvLe.cons (.refl _) EnvLe.nil)))))))))) ?_
            try simp only [RC]
            refine Wk.same ?_
            try simp only [RC]
            refine Wk.same ?_
            try simp only [RC]
            refine Wk.same ?_
            try simp only [RC]
            exact hN108 (_, 2, _, _, _, _) hq
          · replace hq := (R.post_if hq).2 hc121
            refine condK_f (congrArg V.bool (decide_eq_false hc121)) ?_
            rw [wp_seq]
            rw [wp_region]
            simp only [RC, RL, RM, ↓evs_eq, loadN, sliceOp, cut, upon_each, buildOk, lookup, lookV, update, elemOf, Option.isSome_map, unOp, wanted, aop, tkB, neD, Env.get, Env.put, Env.keep, putD, dstOk, ev, constV, nilSlice, V.demote, V.toOwn, V.cells, ty, R1.res, binOp, isShift, binOpT, isC, intOp, strOp, shiftOp, byteV, index, indexAddr, slice, bounds, hiB, loB, withB, maxV, minV, evs, pickV, lenV, builtin, initEnv, convert, K.isU8, strOf, load, store, fieldOf, append, appT, fltOp, cpxV, realV, imagV, toInt, room, fill, placeOf, splice, repl, chunks, Ty.val, Ty.agg, V.plain, H.row, H.ety, AObj.row, Nat.reduceAdd, ↓reduceIte, Nat.reduceEqDiff, Nat.reduceBEq, Nat.reduceBNe, Nat.reduceLT, Int.reduceToNat, Int.reduceEq, Int.reduceLT, Int.reduceLE, reduceCtorEq, Nat.reduceMul, Nat.reduceLeDiff, S_api_Token.enc]
            rw [wp_cond]
            simp only [RC, RL, RM, ↓evs_eq, loadN, sliceOp, cut, upon_each, buildOk, lookup, lookV, update, elemOf, Option.isSome_map, unOp, wanted, aop, tkB, neD, Env.get, Env.put, Env.keep, putD, dstOk, ev, constV, nilSlice, V.demote, V.toOwn, V.cells, ty, R1.res, binOp, isShift, binOpT, isC, intOp, strOp, shiftOp, byteV, index, indexAddr, slice, bounds, hiB, loB, withB, maxV, minV, evs, pickV, lenV, builtin, initEnv, convert, K.isU8, strOf, load, store, fieldOf, append, appT, fltOp, cpxV, realV, imagV, toInt, room, fill, placeOf, splice, repl, chunks, Ty.val, Ty.agg, V.plain, H.row, H.ety, AObj.row, Nat.reduceAdd, ↓reduceIte, Nat.reduceEqDiff, Nat.reduceBEq, Nat.reduceBNe, Nat.reduceLT, Int.reduceToNat, Int.reduceEq, Int.reduceLT, Int.reduceLE, reduceCtorEq, Nat.reduceMul, Nat.reduceLeDiff, S_api_Token.enc]
            by_cases hc122 : x0 < 65536
            · replace hq := (R.post_if hq).1 hc122
              refine condK_t (congrArg V.bool (decide_eq_true hc122)) ?_
              rw [wp_region]
              simp only [RC, RL, RM, ↓evs_eq, loadN, sliceOp, cut, upon_each, buildOk, lookup, lookV, update, elemOf, Option.isSome_map, unOp, wanted, aop, tkB, neD, Env.get, Env.put, Env.keep, putD, dstOk, ev, constV, nilSlice, V.demote, V.toOwn, V.cells, ty, R1.res, binOp, isShift, binOpT, isC, intOp, strOp, shiftOp, byteV, index, indexAddr, slice, bounds, hiB, loB, withB, maxV, minV, evs, pickV, lenV, builtin, initEnv, convert, K.isU8, strOf, load, store, fieldOf, append, appT, fltOp, cpxV, realV, imagV, toInt, room, fill, placeOf, splice, repl, chunks, Ty.val, Ty.agg, V.plain, H.row, H.ety, AObj.row, Nat.reduceAdd, ↓reduceIte, Nat.reduceEqDiff, Nat.reduceBEq, Nat.reduceBNe, Nat.reduceLT, Int.reduceToNat, Int.reduceEq, Int.reduceLT, Int.reduceLE, reduceCtorEq, Nat.reduceMul, Nat.reduceLeDiff, S_api_Token.enc]
              refine Wk.le (EnvLe.cons (.refl _) (EnvLe.cons (.top _) (EnvLe.cons (.refl _) (EnvLe.cons (.refl _) (EnvLe.cons (.refl _) (EnvLe.cons (.top _) (EnvLe.cons (.top _) (EnvLe.cons (.top _) (EnvLe.cons (.top _) (EnvLe.cons (.refl _) EnvLe.nil)))))))))) ?_
              try simp only [RC]
              refine Wk.same ?_
              try simp only [RC]
              refine Wk.same ?_
              try simp only [RC]
              refine Wk.same ?_
              try simp only [RC]
              refine Wk.same ?_
              try simp only [RC]
              exact hN108 (_, 3, _, _, _, _) hq
            · replace hq := (R.post_if hq).2 hc122
              refine condK_f (congrArg V.bool (decide_eq_false hc122)) ?_
              try simp only [wp_skip, RC]
              refine Wk.le (EnvLe.cons (.refl _) (EnvLe.cons (.top _) (EnvLe.cons (.refl _) (EnvLe.cons (.refl _) (EnvLe.cons (.refl _) (EnvLe.cons (.top _) (EnvLe.cons (.top _) (EnvLe.cons (.top _) (EnvLe.cons (.top _) (EnvLe.cons (.refl _) EnvLe.nil)))))))))) ?_
              try simp only [RC]
              refine Wk.same ?_
              try simp only [RC]
              refine Wk.same ?_
              try simp only [RC]
              refine Wk.same ?_
              try simp only [RC]
              refine Wk.same ?_
              try simp only [RC]
              exact hN108 (_, 4, _, _, _, _) hq
    · rw [wp_region]
      simp only [RC, RL, RM, ↓evs_eq, loadN, sliceOp, cut, upon_each, buildOk, lookup, lookV, update, elemOf, Option.isSome_map, unOp, wanted, aop, tkB, neD, Env.get, Env.put, Env.keep, putD, dstOk, ev, constV, nilSlice, V.demote, V.toOwn, V.cells, ty, R1.res, binOp, isShift, binOpT, isC, intOp, strOp, shiftOp, byteV, index, indexAddr, slice, bounds, hiB, loB, withB, maxV, minV, evs, pickV, lenV, builtin, initEnv, convert, K.isU8, strOf, load, store, fieldOf, append, appT, fltOp, cpxV, realV, imagV, toInt, room, fill, placeOf, splice, repl, chunks, Ty.val, Ty.agg, V.plain, H.row, H.ety, AObj.row, Nat.reduceAdd, ↓reduceIte, Nat.reduceEqDiff, Nat.reduceBEq, Nat.reduceBNe, Nat.reduceLT, Int.reduceToNat, Int.reduceEq, Int.reduceLT, Int.reduceLE, reduceCtorEq, Nat.reduceMul, Nat.reduceLeDiff, S_api_Token.enc]
      by_cases hc115 : x0 < 0
      · replace hq := (R.post_if hq).1 hc115
        simp only [decide_eq_true hc115, RC, RL, RM, ↓evs_eq, loadN, sliceOp, cut, upon_each, buildOk, lookup, lookV, update, elemOf, Option.isSome_map, unOp, wanted, aop, tkB, neD, Env.get, Env.put, Env.keep, putD, dstOk, ev, constV, nilSlice, V.demote, V.toOwn, V.cells, ty, R1.res, binOp, isShift, binOpT, isC, intOp, strOp, shiftOp, byteV, index, indexAddr, slice, bounds, hiB, loB, withB, maxV, minV, evs, pickV, lenV, builtin, initEnv, convert, K.isU8, strOf, load, store, fieldOf, append, appT, fltOp, cpxV, realV, imagV, toInt, room, fill, placeOf, splice, repl, chunks, Ty.val, Ty.agg, V.plain, H.row, H.ety, AObj.row, Nat.reduceAdd, ↓reduceIte, Nat.reduceEqDiff, Nat.reduceBEq, Nat.reduceBNe, Nat.reduceLT, Int.reduceToNat, Int.reduceEq, Int.reduceLT, Int.reduceLE, reduceCtorEq, Nat.reduceMul, Nat.reduceLeDiff, S_api_Token.enc]
        exact hN114 true hq
      · replace hq := (R.post_if hq).2 hc115
        simp only [decide_eq_false hc115, RC, RL, RM, ↓evs_eq, loadN, sliceOp, cut, upon_each, buildOk, lookup, lookV, update, elemOf, Option.isSome_map, unOp, wanted, aop, tkB, neD, Env.get, Env.put, Env.keep, putD, dstOk, ev, constV, nilSlice, V.demote, V.toOwn, V.cells, ty, R1.res, binOp, isShift, binOpT, isC, intOp, strOp, shiftOp, byteV, index, indexAddr, slice, bounds, hiB, loB, withB, maxV, minV, evs, pickV, lenV, builtin, initEnv, convert, K.isU8, strOf, load, store, fieldOf, append, appT, fltOp, cpxV, realV, imagV, toInt, room, fill, placeOf, splice, repl, chunks, Ty.val, Ty.agg, V.plain, H.row, H.ety, AObj.row, Nat.reduceAdd, ↓reduceIte, Nat.reduceEqDiff, Nat.reduceBEq, Nat.reduceBNe, Nat.reduceLT, Int.reduceToNat, Int.reduceEq, Int.reduceLT, Int.reduceLE, reduceCtorEq, Nat.reduceMul, Nat.reduceLeDiff, S_api_Token.enc]
        by_cases hc116 : (1114111 : Int) < x0
        · replace hq := (R.post_if hq).1 hc116
          simp only [decide_eq_true hc116, RC, RL, RM, ↓evs_eq, loadN, sliceOp, cut, upon_each, buildOk, lookup, lookV, update, elemOf, Option.isSome_map, unOp, wanted, aop, tkB, neD, Env.get, Env.put, Env.keep, putD, dstOk, ev, constV, nilSlice, V.demote, V.toOwn, V.cells, ty, R1.res, binOp, isShift, binOpT, isC, intOp, strOp, shiftOp, byteV, index, indexAddr, slice, bounds, hiB, loB, withB, maxV, minV, evs, pickV, lenV, builtin, initEnv, convert, K.isU8, strOf, load, store, fieldOf, append, appT, fltOp, cpxV, realV, imagV, toInt, room, fill, placeOf, splice, repl, chunks, Ty.val, Ty.agg, V.plain, H.row, H.ety, AObj.row, Nat.reduceAdd, ↓reduceIte, Nat.reduceEqDiff, Nat.reduceBEq, Nat.reduceBNe, Nat.reduceLT, Int.reduceToNat, Int.reduceEq, Int.reduceLT, Int.reduceLE, reduceCtorEq, Nat.reduceMul, Nat.reduceLeDiff, S_api_Token.enc]
          exact hN114 true hq
        · replace hq := (R.post_if hq).2 hc116
          simp only [decide_eq_false hc116, RC, RL, RM, ↓evs_eq, loadN, sliceOp, cut, upon_each, buildOk, lookup, lookV, update, elemOf, Option.isSome_map, unOp, wanted, aop, tkB, neD, Env.get, Env.put, Env.keep, putD, dstOk, ev, constV, nilSlice, V.demote, V.toOwn, V.cells, ty, R1.res, binOp, isShift, binOpT, isC, intOp, strOp, shiftOp, byteV, index, indexAddr, slice, bounds, hiB, loB, withB, maxV, minV, evs, pickV, lenV, builtin, initEnv, convert, K.isU8, strOf, load, store, fieldOf, append, appT, fltOp, cpxV, realV, imagV, toInt, room, fill, placeOf, splice, repl, chunks, Ty.val, Ty.agg, V.plain, H.row, H.ety, AObj.row, Nat.reduceAdd, ↓reduceIte, Nat.reduceEqDiff, Nat.reduceBEq, Nat.reduceBNe, Nat.reduceLT, Int.reduceToNat, Int.reduceEq, Int.reduceLT, Int.reduceLE, reduceCtorEq, Nat.reduceMul, Nat.reduceLeDiff, S_api_Token.enc]
          exact hN114 (decide ((Int.fdiv x0 (2 ^ (min 11 32))) = 27)) hq

def quote_escaped_1 (o0_0 : List UInt8) (x0 : Int) : R ((List UInt8) × Int) :=
  if 0 ≤ 1 ∧ 1 ≤ (List.length o0_0 : Int) then ((quote_digits (List.drop 1 o0_0) 16 x0).bind fun r6 => (utf_Put (IntKind.wrap .i32 r6.1)).bind fun r20 => (if r6.2 = x0 then (if (0 : Int) < (List.length r20 : Int) then (R.ok (decide (r6.1 ≤ 1114111))) else (R.ok false)) else (R.ok false)).bind fun x29m23 => if x29m23 = true then (R.ok (r20, (IntKind.wrap .i64 (r6.2 + 1)))) else (R.ok ([], 0))) else R.stuck
theorem quote_escaped_1_call {h : H} {o0_0 : List UInt8} {x0 : Int} {Q : Out → H → Prop} {id0 : Nat} (h00 : h[id0]? = some (.cells 9 [.str o0_0])) {KK : ((List UInt8) × Int) → Prop} {X : V → Prop} (hq : (quote_escaped_1 o0_0 x0).post KK X) (hK : ∀ r, KK r → Q (.ret (.tup [.sl 1 (List.map byteV r.1), .int .i64 r.2])) h) (hX : ∀ v, X v → False) : CA qprim 48 [.int .i64 x0, .ref id0 0] h Q := by
  refine acalln hp Try.func48 rfl (by kernel_rfl) (n := 33) rfl (rs := [.tmp 3, .tmp 4]) rfl [0, 1, 3, 4, 5, 6, 7, 29] [] false (by simp) ?_
  unfold quote_escaped_1 at hq
  simp only [initEnv, List.map_cons, List.map_nil, List.getD_cons_zero, List.getD_cons_succ, List.getD_nil, V.demote]
  have hlt0 : id0 < h.length := (List.getElem?_eq_some_iff.1 h00).1
  have hlen : ∀ (c0 : AObj), List.length (List.set h id0 c0) = h.length := by intros; simp only [List.length_set]
  have hg0 : ∀ (c0 : AObj), ((List.set h id0 c0) : List AObj)[id0]? = some c0 := by intros; simp [List.getElem?_set, hlt0]
  have hgl0 : ∀ (c0 : AObj) (L : List AObj), ((List.set h id0 c0) ++ L)[id0]? = some c0 := by intros; rw [List.getElem?_append_left (by rw [hlen]; exact hlt0)]; exact hg0 _
  have hs0 : ∀ (c0 : AObj) (x : AObj), List.set (List.set h id0 c0) id0 x = (List.set h id0 x) := by intros; simp only [List.set_set]
  have hsl0 : ∀ (c0 : AObj) (x : AObj) (L : List AObj), List.set ((List.set h id0 c0) ++ L) id0 x = (List.set h id0 x) ++ L := by intros; rw [List.set_append_left _ _ (by rw [hlen]; exact hlt0), hs0]
  have hgL : ∀ (c0 : AObj) (L : List AObj) (j : Nat), ((List.set h id0 c0) ++ L)[h.length + j]? = L[j]? := by intro c0 L j; have := get_loc (h := (List.set h id0 c0)) (L := L) (j := j); rwa [hlen] at this
  have hgL0 : ∀ (c0 : AObj) (L : List AObj), ((List.set h id0 c0) ++ L)[h.length]? = L[0]? := fun c0 L => hgL c0 L 0
  have hsL : ∀ (c0 : AObj) (L : List AObj) (j : Nat) (x : AObj), List.set ((List.set h id0 c0) ++ L) (h.length + j) x = (List.set h id0 c0) ++ List.set L j x := by intro c0 L j x; have := set_loc (h := (List.set h id0 c0)) (L := L) (j := j) (o := x); rwa [hlen] at this
  have hsL0 : ∀ (c0 : AObj) (L : List AObj) (x : AObj), List.set ((List.set h id0 c0) ++ L) h.length x = (List.set h id0 c0) ++ List.set L 0 x := fun c0 L x => hsL c0 L 0 x
  refine wp_heap (h' := (List.set h id0 (.cells 9 [.str o0_0]))) (by rw [set_same h00]) ?_
  rw [wp_seq]
  rw [wp_region]
  simp only [RC, RL, RM, ↓evs_eq, loadN, sliceOp, cut, upon_each, buildOk, lookup, lookV, update, elemOf, Option.isSome_map, unOp, wanted, aop, tkB, neD, Env.get, Env.put, Env.keep, putD, dstOk, ev, constV, nilSlice, V.demote, V.toOwn, V.cells, ty, R1.res, binOp, isShift, binOpT, isC, intOp, strOp, shiftOp, byteV, index, indexAddr, slice, bounds, hiB, loB, withB, maxV, minV, evs, pickV, lenV, builtin, initEnv, convert, K.isU8, strOf, load, store, fieldOf, append, appT, fltOp, cpxV, realV, imagV, toInt, room, fill, placeOf, splice, repl, chunks, Ty.val, Ty.agg, V.plain, H.row, H.ety, AObj.row, Nat.reduceAdd, ↓reduceIte, Nat.reduceEqDiff, Nat.reduceBEq, Nat.reduceBNe, Nat.reduceLT, Int.reduceToNat, Int.reduceEq, Int.reduceLT, Int.reduceLE, reduceCtorEq, Nat.reduceMul, Nat.reduceLeDiff, S_api_Token.enc, hg0, hgl0, hs0, hsl0, hgL, hgL0, hsL, hsL0, hlen]
  rw [wp_seq]
  rw [wp_region]
  obtain ⟨g5, hq⟩ := R.guard hq
  simp only [RC, RL, RM, ↓evs_eq, loadN, sliceOp, cut, upon_each, buildOk, lookup, lookV, update, elemOf, Option.isSome_map, unOp, wanted, aop, tkB, neD, Env.get, Env.put, Env.keep, putD, dstOk, ev, constV, nilSlice, V.demote, V.toOwn, V.cells, ty, R1.res, binOp, isShift, binOpT, isC, intOp, strOp, shiftOp, byteV, index, indexAddr, slice, bounds, hiB, loB, withB, maxV, minV, evs, pickV, lenV, builtin, initEnv, convert, K.isU8, strOf, load, store, fieldOf, append, appT, fltOp, cpxV, realV, imagV, toInt, room, fill, placeOf, splice, repl, chunks, Ty.val, Ty.agg, V.plain, H.row, H.ety, AObj.row, Nat.reduceAdd, ↓reduceIte, Nat.reduceEqDiff, Nat.reduceBEq, Nat.reduceBNe, Nat.reduceLT, Int.reduceToNat, Int.reduceEq, Int.reduceLT, Int.reduceLE, reduceCtorEq, Nat.reduceMul, Nat.reduceLeDiff, S_api_Token.enc, hg0, hgl0, hs0, hsl0, hgL, hgL0, hsL, hsL0, hlen]
  repeat (with_reducible refine And.intro (by first | omega | assumption) ?_)
  obtain ⟨K32, hK33, hq⟩ := R.post_cut hq
  refine quote_digits_call (x0 := (List.drop 1 o0_0)) (x1 := 16) (x2 := x0) hq (fun r6 hq => ?_) (fun v hv => (hX v hv).elim)
  replace hq := hK33 _ hq
  simp only [RC, RL, RM, ↓evs_eq, loadN, sliceOp, cut, upon_each, buildOk, lookup, lookV, update, elemOf, Option.isSome_map, unOp, wanted, aop, tkB, neD, Env.get, Env.put, Env.keep, putD, dstOk, ev, constV, nilSlice, V.demote, V.toOwn, V.cells, ty, R1.res, binOp, isShift, binOpT, isC, intOp, strOp, shiftOp, byteV, index, indexAddr, slice, bounds, hiB, loB, withB, maxV, minV, evs, pickV, lenV, builtin, initEnv, convert, K.isU8, strOf, load, store, fieldOf, append, appT, fltOp, cpxV, realV, imagV, toInt, room, fill, placeOf, splice, repl, chunks, Ty.val, Ty.agg, V.plain, H.row, H.ety, AObj.row, Nat.reduceAdd, ↓reduceIte, Nat.reduceEqDiff, Nat.reduceBEq, Nat.reduceBNe, Nat.reduceLT, Int.reduceToNat, Int.reduceEq, Int.reduceLT, Int.reduceLE, reduceCtorEq, Nat.reduceMul, Nat.reduceLeDiff, S_api_Token.enc, hg0, hgl0, hs0, hsl0, hgL, hgL0, hsL, hsL0, hlen]
  rw [wp_seq]
  rw [wp_seq]
  rw [wp_region]
  simp only [RC, RL, RM, ↓evs_eq, loadN, sliceOp, cut, upon_each, buildOk, lookup, lookV, update, elemOf, Option.isSome_map, unOp, wanted, aop, tkB, neD, Env.get, Env.put, Env.keep, putD, dstOk, ev, constV, nilSlice, V.demote, V.toOwn, V.cells, ty, R1.res, binOp, isShift, binOpT, isC, intOp, strOp, shiftOp, byteV, index, indexAddr, slice, bounds, hiB, loB, withB, maxV, minV, evs, pickV, lenV, builtin, initEnv, convert, K.isU8, strOf, load, store, fieldOf, append, appT, fltOp, cpxV, realV, imagV, toInt, room, fill, placeOf, splice, repl, chunks, Ty.val, Ty.agg, V.plain, H.row, H.ety, AObj.row, Nat.reduceAdd, ↓reduceIte, Nat.reduceEqDiff, Nat.reduceBEq, Nat.reduceBNe, Nat.reduceLT, Int.reduceToNat, Int.reduceEq, Int.reduceLT, Int.reduceLE, reduceCtorEq, Nat.reduceMul, Nat.reduceLeDiff, S_api_Token.enc, hg0, hgl0, hs0, hsl0, hgL, hgL0, hsL, hsL0, hlen]
  obtain ⟨K30, hK31, hq⟩ := R.post_cut hq
  refine utf_Put_call (x0 := (IntKind.wrap .i32 r6.1)) hq (fun r20 hq => ?_) (fun v hv => (hX v hv).elim)
  replace hq := hK31 _ hq
  simp only [RC, RL, RM, ↓evs_eq, loadN, sliceOp, cut, upon_each, buildOk, lookup, lookV, update, elemOf, Option.isSome_map, unOp, wanted, aop, tkB, neD, Env.get, Env.put, Env.keep, putD, dstOk, ev, constV, nilSlice, V.demote, V.toOwn, V.cells, ty, R1.res, binOp, isShift, binOpT, isC, intOp, strOp, shiftOp, byteV, index, indexAddr, slice, bounds, hiB, loB, withB, maxV, minV, evs, pickV, lenV, builtin, initEnv, convert, K.isU8, strOf, load, store, fieldOf, append, appT, fltOp, cpxV, realV, imagV, toInt, room, fill, placeOf, splice, repl, chunks, Ty.val, Ty.agg, V.plain, H.row, H.ety, AObj.row, Nat.reduceAdd, ↓reduceIte, Nat.reduceEqDiff, Nat.reduceBEq, Nat.reduceBNe, Nat.reduceLT, Int.reduceToNat, Int.reduceEq, Int.reduceLT, Int.reduceLE, reduceCtorEq, Nat.reduceMul, Nat.reduceLeDiff, S_api_Token.enc, hg0, hgl0, hs0, hsl0, hgL, hgL0, hsL, hsL0, hlen]
  obtain ⟨K24, hK25, hq⟩ := R.post_cut hq
  refine seq_gen (acall_mono hp) (σ := Bool) (fun s => [(0, .int .i64 x0), (1, .ref id0 0), (3, .own 5 1 []), (4, .int .i64 0), (5, .int .i64 r6.1), (6, .int .i64 r6.2), (7, .sl 1 (List.map byteV r20)), (29, .bool s)]) (fun s => (List.set h id0 (.cells 9 [.str o0_0]))) (fun s => K24 s) (fun x29m23 hq => ?_) (fun N hN26 => ?_)
  · replace hq := hK25 _ hq
    try dsimp only at hq ⊢
    rw [wp_cond]
    simp only [RC, RL, RM, ↓evs_eq, loadN, sliceOp, cut, upon_each, buildOk, lookup, lookV, update, elemOf, Option.isSome_map, unOp, wanted, aop, tkB, neD, Env.get, Env.put, Env.keep, putD, dstOk, ev, constV, nilSlice, V.demote, V.toOwn, V.cells, ty, R1.res, binOp, isShift, binOpT, isC, intOp, strOp, shiftOp, byteV, index, indexAddr, slice, bounds, hiB, loB, withB, maxV, minV, evs, pickV, lenV, builtin, initEnv, convert, K.isU8, strOf, load, store, fieldOf, append, appT, fltOp, cpxV, realV, imagV, toInt, room, fill, placeOf, splice, repl, chunks, Ty.val, Ty.agg, V.plain, H.row, H.ety, AObj.row, Nat.reduceAdd, ↓reduceIte, Nat.reduceEqDiff, Nat.reduceBEq, Nat.reduceBNe, Nat.reduceLT, Int.reduceToNat, Int.reduceEq, Int.reduceLT, Int.reduceLE, reduceCtorEq, Nat.reduceMul, Nat.reduceLeDiff, S_api_Token.enc, hg0, hgl0, hs0, hsl0, hgL, hgL0, hsL, hsL0, hlen]
    by_cases hc29 : x29m23 = true
    · replace hq := (R.post_if hq).1 hc29
      refine condK_t (congrArg V.bool (hc29)) ?_
      rw [wp_seq]
      rw [wp_region]
      simp only [RC, RL, RM, ↓evs_eq, loadN, sliceOp, cut, upon_each, buildOk, lookup, lookV, update, elemOf, Option.isSome_map, unOp, wanted, aop, tkB, neD, Env.get, Env.put, Env.keep, putD, dstOk, ev, constV, nilSlice, V.demote, V.toOwn, V.cells, ty, R1.res, binOp, isShift, binOpT, isC, intOp, strOp, shiftOp, byteV, index, indexAddr, slice, bounds, hiB, loB, withB, maxV, minV, evs, pickV, lenV, builtin, initEnv, convert, K.isU8, strOf, load, store, fieldOf, append, appT, fltOp, cpxV, realV, imagV, toInt, room, fill, placeOf, splice, repl, chunks, Ty.val, Ty.agg, V.plain, H.row, H.ety, AObj.row, Nat.reduceAdd, ↓reduceIte, Nat.reduceEqDiff, Nat.reduceBEq, Nat.reduceBNe, Nat.reduceLT, Int.reduceToNat, Int.reduceEq, Int.reduceLT, Int.reduceLE, reduceCtorEq, Nat.reduceMul, Nat.reduceLeDiff, S_api_Token.enc, hg0, hgl0, hs0, hsl0, hgL, hgL0, hsL, hsL0, hlen]
      rw [wp_ret]
      simp only [retQ, results, resultAll, resultOne, Nat.zero_add, RC, RL, RM, ↓evs_eq, loadN, sliceOp, cut, upon_each, buildOk, lookup, lookV, update, elemOf, Option.isSome_map, unOp, wanted, aop, tkB, neD, Env.get, Env.put, Env.keep, putD, dstOk, ev, constV, nilSlice, V.demote, V.toOwn, V.cells, ty, R1.res, binOp, isShift, binOpT, isC, intOp, strOp, shiftOp, byteV, index, indexAddr, slice, bounds, hiB, loB, withB, maxV, minV, evs, pickV, lenV, builtin, initEnv, convert, K.isU8, strOf, load, store, fieldOf, append, appT, fltOp, cpxV, realV, imagV, toInt, room, fill, placeOf, splice, repl, chunks, Ty.val, Ty.agg, V.plain, H.row, H.ety, AObj.row, Nat.reduceAdd, ↓reduceIte, Nat.reduceEqDiff, Nat.reduceBEq, Nat.reduceBNe, Nat.reduceLT, Int.reduceToNat, Int.reduceEq, Int.reduceLT, Int.reduceLE, reduceCtorEq, Nat.reduceMul, Nat.reduceLeDiff, S_api_Token.enc, hg0, hgl0, hs0, hsl0, hgL, hgL0, hsL, hsL0, hlen]
      refine ⟨_, (.refl _), ?_⟩
      rw [set_same h00]
      exact hK _ hq
    · replace hq := (R.post_if hq).2 hc29
      replace hc29 := eq_false_of_ne_true hc29
      refine condK_f (congrArg V.bool (hc29)) ?_
      try simp only [wp_skip, RC]
      refine Wk.same ?_
      try simp only [RC]
      rw [wp_seq]
      rw [wp_region]
      simp only [RC, RL, RM, ↓evs_eq, loadN, sliceOp, cut, upon_each, buildOk, lookup, lookV, update, elemOf, Option.isSome_map, unOp, wanted, aop, tkB, neD, Env.get, Env.put, Env.keep, putD, dstOk, ev, constV, nilSlice, V.demote, V.toOwn, V.cells, ty, R1.res, binOp, isShift, binOpT, isC, intOp, strOp, shiftOp, byteV, index, indexAddr, slice, bounds, hiB, loB, withB, maxV, minV, evs, pickV, lenV, builtin, initEnv, convert, K.isU8, strOf, load, store, fieldOf, append, appT, fltOp, cpxV, realV, imagV, toInt, room, fill, placeOf, splice, repl, chunks, Ty.val, Ty.agg, V.plain, H.row, H.ety, AObj.row, Nat.reduceAdd, ↓reduceIte, Nat.reduceEqDiff, Nat.reduceBEq, Nat.reduceBNe, Nat.reduceLT, Int.reduceToNat, Int.reduceEq, Int.reduceLT, Int.reduceLE, reduceCtorEq, Nat.reduceMul, Nat.reduceLeDiff, S_api_Token.enc, hg0, hgl0, hs0, hsl0, hgL, hgL0, hsL, hsL0, hlen]
      rw [wp_ret]
      simp only [retQ, results, resultAll, resultOne, Nat.zero_add, RC, RL, RM, ↓evs_eq, loadN, sliceOp, cut, upon_each, buildOk, lookup, lookV, update, elemOf, Option.isSome_map, unOp, wanted, aop, tkB, neD, Env.get, Env.put, Env.keep, putD, dstOk, ev, constV, nilSlice, V.demote, V.toOwn, V.cells, ty, R1.res, binOp, isShift, binOpT, isC, intOp, strOp, shiftOp, byteV, index, indexAddr, slice, bounds, hiB, loB, withB, maxV, minV, evs, pickV, lenV, builtin, initEnv, convert, K.isU8, strOf, load, store, fieldOf, append, appT, fltOp, cpxV, realV, imagV, toInt, room, fill, placeOf, splice, repl, chunks, Ty.val, Ty.agg, V.plain, H.row, H.ety, AObj.row, Nat.reduceAdd, ↓reduceIte, Nat.reduceEqDiff, Nat.reduceBEq, Nat.reduceBNe, Nat.reduceLT, Int.reduceToNat, Int.reduceEq, Int.reduceLT, Int.reduceLE, reduceCtorEq, Nat.reduceMul, Nat.reduceLeDiff, S_api_Token.enc, hg0, hgl0, hs0, hsl0, hgL, hgL0, hsL, hsL0, hlen]
      refine ⟨_, (.refl _), ?_⟩
      rw [set_same h00]
      exact hK _ hq
  · rw [wp_region]
    simp only [RC, RL, RM, ↓evs_eq, loadN, sliceOp, cut, upon_each, buildOk, lookup, lookV, update, elemOf, Option.isSome_map, unOp, wanted, aop, tkB, neD, Env.get, Env.put, Env.keep, putD, dstOk, ev, constV, nilSlice, V.demote, V.toOwn, V.cells, ty, R1.res, binOp, isShift, binOpT, isC, intOp, strOp, shiftOp, byteV, index, indexAddr, slice, bounds, hiB, loB, withB, maxV, minV, evs, pickV, lenV, builtin, initEnv, convert, K.isU8, strOf, load, store, fieldOf, append, appT, fltOp, cpxV, realV, imagV, toInt, room, fill, placeOf, splice, repl, chunks, Ty.val, Ty.agg, V.plain, H.row, H.ety, AObj.row, Nat.reduceAdd, ↓reduceIte, Nat.reduceEqDiff, Nat.reduceBEq, Nat.reduceBNe, Nat.reduceLT, Int.reduceToNat, Int.reduceEq, Int.reduceLT, Int.reduceLE, reduceCtorEq, Nat.reduceMul, Nat.reduceLeDiff, S_api_Token.enc, hg0, hgl0, hs0, hsl0, hgL, hgL0, hsL, hsL0, hlen]
    by_cases hc27 : r6.2 = x0
    · replace hq := (R.post_if hq).1 hc27
      simp only [decide_eq_true hc27, RC, RL, RM, ↓evs_eq, loadN, sliceOp, cut, upon_each, buildOk, lookup, lookV, update, elemOf, Option.isSome_map, unOp, wanted, aop, tkB, neD, Env.get, Env.put, Env.keep, putD, dstOk, ev, constV, nilSlice, V.demote, V.toOwn, V.cells, ty, R1.res, binOp, isShift, binOpT, isC, intOp, strOp, shiftOp, byteV, index, indexAddr, slice, bounds, hiB, loB, withB, maxV, minV, evs, pickV, lenV, builtin, initEnv, convert, K.isU8, strOf, load, store, fieldOf, append, appT, fltOp, cpxV, realV, imagV, toInt, room, fill, placeOf, splice, repl, chunks, Ty.val, Ty.agg, V.plain, H.row, H.ety, AObj.row, Nat.reduceAdd, ↓reduceIte, Nat.reduceEqDiff, Nat.reduceBEq, Nat.reduceBNe, Nat.reduceLT, Int.reduceToNat, Int.reduceEq, Int.reduceLT, Int.reduceLE, reduceCtorEq, Nat.reduceMul, Nat.reduceLeDiff, S_api_Token.enc, hg0, hgl0, hs0, hsl0, hgL, hgL0, hsL, hsL0, hlen]
      by_cases hc28 : (0 : Int) < (List.length r20 : Int)
      · replace hq := (R.post_if hq).1 hc28
        simp only [decide_eq_true hc28, RC, RL, RM, ↓evs_eq, loadN, sliceOp, cut, upon_each, buildOk, lookup, lookV, update, elemOf, Option.isSome_map, unOp, wanted, aop, tkB, neD, Env.get, Env.put, Env.keep, putD, dstOk, ev, constV, nilSlice, V.demote, V.toOwn, V.cells, ty, R1.res, binOp, isShift, binOpT, isC, intOp, strOp, shiftOp, byteV, index, indexAddr, slice, bounds, hiB, loB, withB, maxV, minV, evs, pickV, lenV, builtin, initEnv, convert, K.isU8, strOf, load, store, fieldOf, append, appT, fltOp, cpxV, realV, imagV, toInt, room, fill, placeOf, splice, repl, chunks, Ty.val, Ty.agg, V.plain, H.row, H.ety, AObj.row, Nat.reduceAdd, ↓reduceIte, Nat.reduceEqDiff, Nat.reduceBEq, Nat.reduceBNe, Nat.reduceLT, Int.reduceToNat, Int.reduceEq, Int.reduceLT, Int.reduceLE, reduceCtorEq, Nat.reduceMul, Nat.reduceLeDiff, S_api_Token.enc, hg0, hgl0, hs0, hsl0, hgL, hgL0, hsL, hsL0, hlen]
        exact hN26 (decide (r6.1 ≤ 1114111)) hq
      · replace hq := (R.post_if hq).2 hc28
        simp only [decide_eq_false hc28, RC, RL, RM, ↓evs_eq, loadN, sliceOp, cut, upon_each, buildOk, lookup, lookV, update, elemOf, Option.isSome_map, unOp, wanted, aop, tkB, neD, Env.get, Env.put, Env.keep, putD, dstOk, ev, constV, nilSlice, V.demote, V.toOwn, V.cells, ty, R1.res, binOp, isShift, binOpT, isC, intOp, strOp, shiftOp, byteV, index, indexAddr, slice, bounds, hiB, loB, withB, maxV, minV, evs, pickV, lenV, builtin, initEnv, convert, K.isU8, strOf, load, store, fieldOf, append, appT, fltOp, cpxV, realV, imagV, toInt, room, fill, placeOf, splice, repl, chunks, Ty.val, Ty.agg, V.plain, H.row, H.ety, AObj.row, Nat.reduceAdd, ↓reduceIte, Nat.reduceEqDiff, Nat.reduceBEq, Nat.reduceBNe, Nat.reduceLT, Int.reduceToNat, Int.reduceEq, Int.reduceLT, Int.reduceLE, reduceCtorEq, Nat.reduceMul, Nat.reduceLeDiff, S_api_Token.enc, hg0, hgl0, hs0, hsl0, hgL, hgL0, hsL, hsL0, hlen]
        exact hN26 false hq
    · replace hq := (R.post_if hq).2 hc27
      simp only [decide_eq_false hc27, RC, RL, RM, ↓evs_eq, loadN, sliceOp, cut, upon_each, buildOk, lookup, lookV, update, elemOf, Option.isSome_map, unOp, wanted, aop, tkB, neD, Env.get, Env.put, Env.keep, putD, dstOk, ev, constV, nilSlice, V.demote, V.toOwn, V.cells, ty, R1.res, binOp, isShift, binOpT, isC, intOp, strOp, shiftOp, byteV, index, indexAddr, slice, bounds, hiB, loB, withB, maxV, minV, evs, pickV, lenV, builtin, initEnv, convert, K.isU8, strOf, load, store, fieldOf, append, appT, fltOp, cpxV, realV, imagV, toInt, room, fill, placeOf, splice, repl, chunks, Ty.val, Ty.agg, V.plain, H.row, H.ety, AObj.row, Nat.reduceAdd, ↓reduceIte, Nat.reduceEqDiff, Nat.reduceBEq, Nat.reduceBNe, Nat.reduceLT, Int.reduceToNat, Int.reduceEq, Int.reduceLT, Int.reduceLE, reduceCtorEq, Nat.reduceMul, Nat.reduceLeDiff, S_api_Token.enc, hg0, hgl0, hs0, hsl0, hgL, hgL0, hsL, hsL0, hlen]
      exact hN26 false hq
end Go.Proofs.Ytblbbmlppmpmjaa.Pv
