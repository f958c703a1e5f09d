/- Functions of the program, as plain Lean functions, and that the code comes to them: printed by gen.py. -/
import Derived.Test.YtblbbmlppmpmjaaG0
set_option linter.unusedVariables false
set_option linter.unusedSimpArgs false
set_option maxHeartbeats 4000000
set_option maxRecDepth 10000
namespace Go.Proofs.Ytblbbmlppmpmjaa.Pv
open Go Go.Proofs

def quote_worth (x0 : UInt8) : R (Int) :=
  (if (48 : Int) ≤ (x0.toNat : Int) then (R.ok (decide ((x0.toNat : Int) ≤ 57))) else (R.ok false)).bind fun x3m17 => if x3m17 = true then (R.ok (IntKind.wrap .i64 ((u8 (IntKind.wrap .u8 ((x0.toNat : Int) - 48))).toNat : Int))) else ((if (97 : Int) ≤ (x0.toNat : Int) then (R.ok (decide ((x0.toNat : Int) ≤ 102))) else (R.ok false)).bind fun x13m26 => if x13m26 = true then (R.ok (IntKind.wrap .i64 ((IntKind.wrap .i64 ((u8 (IntKind.wrap .u8 ((x0.toNat : Int) - 97))).toNat : Int)) + 10))) else ((if (65 : Int) ≤ (x0.toNat : Int) then (R.ok (decide ((x0.toNat : Int) ≤ 70))) else (R.ok false)).bind fun x24m35 => if x24m35 = true then (R.ok (IntKind.wrap .i64 ((IntKind.wrap .i64 ((u8 (IntKind.wrap .u8 ((x0.toNat : Int) - 65))).toNat : Int)) + 10))) else (R.ok 16)))
theorem quote_worth_call {h : H} {x0 : UInt8} {Q : Out → H → Prop} {KK : (Int) → Prop} {X : V → Prop} (hq : (quote_worth x0).post KK X) (hK : ∀ r, KK r → Q (.ret (.int .i64 r)) h) (hX : ∀ v, X v → V.Cl 0 v ∧ Q (.panic v) h) : CA qprim 42 [.int .u8 (x0.toNat : Int)] h Q := by
  refine acalln hp Try.func42 rfl (by kernel_rfl) (n := 35) rfl (rs := [.tmp 2]) rfl [0, 2, 3, 13, 24] [] false (by simp) ?_
  unfold quote_worth at hq
  simp only [initEnv, List.map_cons, List.map_nil, List.getD_cons_zero, List.getD_cons_succ, List.getD_nil, V.demote]
  rw [wp_seq]
  rw [wp_region]
  simp only [RC, RL, RM, ↓evs_eq, loadN, sliceOp, cut, upon_each, buildOk, lookup, lookV, update, elemOf, Option.isSome_map, unOp, wanted, aop, tkB, neD, Env.get, Env.put, Env.keep, putD, dstOk, ev, constV, nilSlice, V.demote, V.toOwn, V.cells, ty, R1.res, binOp, isShift, binOpT, isC, intOp, strOp, shiftOp, byteV, index, indexAddr, slice, bounds, hiB, loB, withB, maxV, minV, evs, pickV, lenV, builtin, initEnv, convert, K.isU8, strOf, load, store, fieldOf, append, appT, fltOp, cpxV, realV, imagV, toInt, room, fill, placeOf, splice, repl, chunks, Ty.val, Ty.agg, V.plain, H.row, H.ety, AObj.row, Nat.reduceAdd, ↓reduceIte, Nat.reduceEqDiff, Nat.reduceBEq, Nat.reduceBNe, Nat.reduceLT, Int.reduceToNat, Int.reduceEq, Int.reduceLT, Int.reduceLE, reduceCtorEq, Nat.reduceMul, Nat.reduceLeDiff, S_api_Token.enc]
  rw [wp_seq]
  rw [wp_block]
  obtain ⟨K18, hK19, hq⟩ := R.post_cut hq
  refine seq_gen (acall_mono hp) (σ := Bool) (fun s => [(0, .int .u8 (x0.toNat : Int)), (2, .int .i64 0), (3, .bool s), (13, .top), (24, .top)]) (fun s => h) (fun s => K18 s) (fun x3m17 hq => ?_) (fun N hN20 => ?_)
  · replace hq := hK19 _ hq
    try dsimp only at hq ⊢
    rw [wp_cond]
    simp only [RC, RL, RM, ↓evs_eq, loadN, sliceOp, cut, upon_each, buildOk, lookup, lookV, update, elemOf, Option.isSome_map, unOp, wanted, aop, tkB, neD, Env.get, Env.put, Env.keep, putD, dstOk, ev, constV, nilSlice, V.demote, V.toOwn, V.cells, ty, R1.res, binOp, isShift, binOpT, isC, intOp, strOp, shiftOp, byteV, index, indexAddr, slice, bounds, hiB, loB, withB, maxV, minV, evs, pickV, lenV, builtin, initEnv, convert, K.isU8, strOf, load, store, fieldOf, append, appT, fltOp, cpxV, realV, imagV, toInt, room, fill, placeOf, splice, repl, chunks, Ty.val, Ty.agg, V.plain, H.row, H.ety, AObj.row, Nat.reduceAdd, ↓reduceIte, Nat.reduceEqDiff, Nat.reduceBEq, Nat.reduceBNe, Nat.reduceLT, Int.reduceToNat, Int.reduceEq, Int.reduceLT, Int.reduceLE, reduceCtorEq, Nat.reduceMul, Nat.reduceLeDiff, S_api_Token.enc]
    by_cases hc22 : x3m17 = true
    · replace hq := (R.post_if hq).1 hc22
      refine condK_t (congrArg V.bool (hc22)) ?_
      rw [wp_seq]
      rw [wp_region]
      have e24 := u8_fix (n := (IntKind.wrap .u8 ((x0.toNat : Int) - 48))) (wrap_u8 _)
      simp only [e24, RC, RL, RM, ↓evs_eq, loadN, sliceOp, cut, upon_each, buildOk, lookup, lookV, update, elemOf, Option.isSome_map, unOp, wanted, aop, tkB, neD, Env.get, Env.put, Env.keep, putD, dstOk, ev, constV, nilSlice, V.demote, V.toOwn, V.cells, ty, R1.res, binOp, isShift, binOpT, isC, intOp, strOp, shiftOp, byteV, index, indexAddr, slice, bounds, hiB, loB, withB, maxV, minV, evs, pickV, lenV, builtin, initEnv, convert, K.isU8, strOf, load, store, fieldOf, append, appT, fltOp, cpxV, realV, imagV, toInt, room, fill, placeOf, splice, repl, chunks, Ty.val, Ty.agg, V.plain, H.row, H.ety, AObj.row, Nat.reduceAdd, ↓reduceIte, Nat.reduceEqDiff, Nat.reduceBEq, Nat.reduceBNe, Nat.reduceLT, Int.reduceToNat, Int.reduceEq, Int.reduceLT, Int.reduceLE, reduceCtorEq, Nat.reduceMul, Nat.reduceLeDiff, S_api_Token.enc]
      rw [wp_ret]
      simp only [retQ, results, resultAll, resultOne, Nat.zero_add, RC, RL, RM, ↓evs_eq, loadN, sliceOp, cut, upon_each, buildOk, lookup, lookV, update, elemOf, Option.isSome_map, unOp, wanted, aop, tkB, neD, Env.get, Env.put, Env.keep, putD, dstOk, ev, constV, nilSlice, V.demote, V.toOwn, V.cells, ty, R1.res, binOp, isShift, binOpT, isC, intOp, strOp, shiftOp, byteV, index, indexAddr, slice, bounds, hiB, loB, withB, maxV, minV, evs, pickV, lenV, builtin, initEnv, convert, K.isU8, strOf, load, store, fieldOf, append, appT, fltOp, cpxV, realV, imagV, toInt, room, fill, placeOf, splice, repl, chunks, Ty.val, Ty.agg, V.plain, H.row, H.ety, AObj.row, Nat.reduceAdd, ↓reduceIte, Nat.reduceEqDiff, Nat.reduceBEq, Nat.reduceBNe, Nat.reduceLT, Int.reduceToNat, Int.reduceEq, Int.reduceLT, Int.reduceLE, reduceCtorEq, Nat.reduceMul, Nat.reduceLeDiff, S_api_Token.enc]
      refine ⟨_, (.refl _), ?_⟩
      exact hK _ hq
    · replace hq := (R.post_if hq).2 hc22
      replace hc22 := eq_false_of_ne_true hc22
      refine condK_f (congrArg V.bool (hc22)) ?_
      obtain ⟨K27, hK28, hq⟩ := R.post_cut hq
      refine seq_gen (acall_mono hp) (σ := Bool) (fun s => [(0, .int .u8 (x0.toNat : Int)), (2, .int .i64 0), (3, .bool x3m17), (13, .bool s), (24, .top)]) (fun s => h) (fun s => K27 s) (fun x13m26 hq => ?_) (fun N hN29 => ?_)
      · replace hq := hK28 _ hq
        try dsimp only at hq ⊢
        rw [wp_cond]
        simp only [RC, RL, RM, ↓evs_eq, loadN, sliceOp, cut, upon_each, buildOk, lookup, lookV, update, elemOf, Option.isSome_map, unOp, wanted, aop, tkB, neD, Env.get, Env.put, Env.keep, putD, dstOk, ev, constV, nilSlice, V.demote, V.toOwn, V.cells, ty, R1.res, binOp, isShift, binOpT, isC, intOp, strOp, shiftOp, byteV, index, indexAddr, slice, bounds, hiB, loB, withB, maxV, minV, evs, pickV, lenV, builtin, initEnv, convert, K.isU8, strOf, load, store, fieldOf, append, appT, fltOp, cpxV, realV, imagV, toInt, room, fill, placeOf, splice, repl, chunks, Ty.val, Ty.agg, V.plain, H.row, H.ety, AObj.row, Nat.reduceAdd, ↓reduceIte, Nat.reduceEqDiff, Nat.reduceBEq, Nat.reduceBNe, Nat.reduceLT, Int.reduceToNat, Int.reduceEq, Int.reduceLT, Int.reduceLE, reduceCtorEq, Nat.reduceMul, Nat.reduceLeDiff, S_api_Token.enc]
        by_cases hc31 : x13m26 = true
        · replace hq := (R.post_if hq).1 hc31
          refine condK_t (congrArg V.bool (hc31)) ?_
          rw [wp_seq]
          rw [wp_region]
          have e33 := u8_fix (n := (IntKind.wrap .u8 ((x0.toNat : Int) - 97))) (wrap_u8 _)
          simp only [e33, RC, RL, RM, ↓evs_eq, loadN, sliceOp, cut, upon_each, buildOk, lookup, lookV, update, elemOf, Option.isSome_map, unOp, wanted, aop, tkB, neD, Env.get, Env.put, Env.keep, putD, dstOk, ev, constV, nilSlice, V.demote, V.toOwn, V.cells, ty, R1.res, binOp, isShift, binOpT, isC, intOp, strOp, shiftOp, byteV, index, indexAddr, slice, bounds, hiB, loB, withB, maxV, minV, evs, pickV, lenV, builtin, initEnv, convert, K.isU8, strOf, load, store, fieldOf, append, appT, fltOp, cpxV, realV, imagV, toInt, room, fill, placeOf, splice, repl, chunks, Ty.val, Ty.agg, V.plain, H.row, H.ety, AObj.row, Nat.reduceAdd, ↓reduceIte, Nat.reduceEqDiff, Nat.reduceBEq, Nat.reduceBNe, Nat.reduceLT, Int.reduceToNat, Int.reduceEq, Int.reduceLT, Int.reduceLE, reduceCtorEq, Nat.reduceMul, Nat.reduceLeDiff, S_api_Token.enc]
          rw [wp_ret]
          simp only [retQ, results, resultAll, resultOne, Nat.zero_add, RC, RL, RM, ↓evs_eq, loadN, sliceOp, cut, upon_each, buildOk, lookup, lookV, update, elemOf, Option.isSome_map, unOp, wanted, aop, tkB, neD, Env.get, Env.put, Env.keep, putD, dstOk, ev, constV, nilSlice, V.demote, V.toOwn, V.cells, ty, R1.res, binOp, isShift, binOpT, isC, intOp, strOp, shiftOp, byteV, index, indexAddr, slice, bounds, hiB, loB, withB, maxV, minV, evs, pickV, lenV, builtin, initEnv, convert, K.isU8, strOf, load, store, fieldOf, append, appT, fltOp, cpxV, realV, imagV, toInt, room, fill, placeOf, splice, repl, chunks, Ty.val, Ty.agg, V.plain, H.row, H.ety, AObj.row, Nat.reduceAdd, ↓reduceIte, Nat.reduceEqDiff, Nat.reduceBEq, Nat.reduceBNe, Nat.reduceLT, Int.reduceToNat, Int.reduceEq, Int.reduceLT, Int.reduceLE, reduceCtorEq, Nat.reduceMul, Nat.reduceLeDiff, S_api_Token.enc]
          refine ⟨_, (.refl _), ?_⟩
          exact hK _ hq
        · replace hq := (R.post_if hq).2 hc31
          replace hc31 := eq_false_of_ne_true hc31
          refine condK_f (congrArg V.bool (hc31)) ?_
          obtain ⟨K36, hK37, hq⟩ := R.post_cut hq
          refine seq_gen (acall_mono hp) (σ := Bool) (fun s => [(0, .int .u8 (x0.toNat : Int)), (2, .int .i64 0), (3, .bool x3m17), (13, .bool x13m26), (24, .bool s)]) (fun s => h) (fun s => K36 s) (fun x24m35 hq => ?_) (fun N hN38 => ?_)
          · replace hq := hK37 _ hq
            try dsimp only at hq ⊢
            rw [wp_cond]
            simp only [RC, RL, RM, ↓evs_eq, loadN, sliceOp, cut, upon_each, buildOk, lookup, lookV, update, elemOf, Option.isSome_map, unOp, wanted, aop, tkB, neD, Env.get, Env.put, Env.keep, putD, dstOk, ev, constV, nilSlice, V.demote, V.toOwn, V.cells, ty, R1.res, binOp, isShift, binOpT, isC, intOp, strOp, shiftOp, byteV, index, indexAddr, slice, bounds, hiB, loB, withB, maxV, minV, evs, pickV, lenV, builtin, initEnv, convert, K.isU8, strOf, load, store, fieldOf, append, appT, fltOp, cpxV, realV, imagV, toInt, room, fill, placeOf, splice, repl, chunks, Ty.val, Ty.agg, V.plain, H.row, H.ety, AObj.row, Nat.reduceAdd, ↓reduceIte, Nat.reduceEqDiff, Nat.reduceBEq, Nat.reduceBNe, Nat.reduceLT, Int.reduceToNat, Int.reduceEq, Int.reduceLT, Int.reduceLE, reduceCtorEq, Nat.reduceMul, Nat.reduceLeDiff, S_api_Token.enc]
            by_cases hc40 : x24m35 = true
            · replace hq := (R.post_if hq).1 hc40
              refine condK_t (congrArg V.bool (hc40)) ?_
              rw [wp_seq]
              rw [wp_region]
              have e42 := u8_fix (n := (IntKind.wrap .u8 ((x0.toNat : Int) - 65))) (wrap_u8 _)
              simp only [e42, RC, RL, RM, ↓evs_eq, loadN, sliceOp, cut, upon_each, buildOk, lookup, lookV, update, elemOf, Option.isSome_map, unOp, wanted, aop, tkB, neD, Env.get, Env.put, Env.keep, putD, dstOk, ev, constV, nilSlice, V.demote, V.toOwn, V.cells, ty, R1.res, binOp, isShift, binOpT, isC, intOp, strOp, shiftOp, byteV, index, indexAddr, slice, bounds, hiB, loB, withB, maxV, minV, evs, pickV, lenV, builtin, initEnv, convert, K.isU8, strOf, load, store, fieldOf, append, appT, fltOp, cpxV, realV, imagV, toInt, room, fill, placeOf, splice, repl, chunks, Ty.val, Ty.agg, V.plain, H.row, H.ety, AObj.row, Nat.reduceAdd, ↓reduceIte, Nat.reduceEqDiff, Nat.reduceBEq, Nat.reduceBNe, Nat.reduceLT, Int.reduceToNat, Int.reduceEq, Int.reduceLT, Int.reduceLE, reduceCtorEq, Nat.reduceMul, Nat.reduceLeDiff, S_api_Token.enc]
              rw [wp_ret]
              simp only [retQ, results, resultAll, resultOne, Nat.zero_add, RC, RL, RM, ↓evs_eq, loadN, sliceOp, cut, upon_each, buildOk, lookup, lookV, update, elemOf, Option.isSome_map, unOp, wanted, aop, tkB, neD, Env.get, Env.put, Env.keep, putD, dstOk, ev, constV, nilSlice, V.demote, V.toOwn, V.cells, ty, R1.res, binOp, isShift, binOpT, isC, intOp, strOp, shiftOp, byteV, index, indexAddr, slice, bounds, hiB, loB, withB, maxV, minV, evs, pickV, lenV, builtin, initEnv, convert, K.isU8, strOf, load, store, fieldOf, append, appT, fltOp, cpxV, realV, imagV, toInt, room, fill, placeOf, splice, repl, chunks, Ty.val, Ty.agg, V.plain, H.row, H.ety, AObj.row, Nat.reduceAdd, ↓reduceIte, Nat.reduceEqDiff, Nat.reduceBEq, Nat.reduceBNe, Nat.reduceLT, Int.reduceToNat, Int.reduceEq, Int.reduceLT, Int.reduceLE, reduceCtorEq, Nat.reduceMul, Nat.reduceLeDiff, S_api_Token.enc]
              refine ⟨_, (.refl _), ?_⟩
              exact hK _ hq
            · replace hq := (R.post_if hq).2 hc40
              replace hc40 := eq_false_of_ne_true hc40
              refine condK_f (congrArg V.bool (hc40)) ?_
              try simp only [wp_skip, RC]
              refine Wk.same ?_
              try simp only [RC]
              refine Wk.same ?_
              try simp only [RC]
              refine Wk.same ?_
              try simp only [RC]
              refine Wk.same ?_
              try simp only [RC]
              rw [wp_seq]
              rw [wp_region]
              simp only [RC, RL, RM, ↓evs_eq, loadN, sliceOp, cut, upon_each, buildOk, lookup, lookV, update, elemOf, Option.isSome_map, unOp, wanted, aop, tkB, neD, Env.get, Env.put, Env.keep, putD, dstOk, ev, constV, nilSlice, V.demote, V.toOwn, V.cells, ty, R1.res, binOp, isShift, binOpT, isC, intOp, strOp, shiftOp, byteV, index, indexAddr, slice, bounds, hiB, loB, withB, maxV, minV, evs, pickV, lenV, builtin, initEnv, convert, K.isU8, strOf, load, store, fieldOf, append, appT, fltOp, cpxV, realV, imagV, toInt, room, fill, placeOf, splice, repl, chunks, Ty.val, Ty.agg, V.plain, H.row, H.ety, AObj.row, Nat.reduceAdd, ↓reduceIte, Nat.reduceEqDiff, Nat.reduceBEq, Nat.reduceBNe, Nat.reduceLT, Int.reduceToNat, Int.reduceEq, Int.reduceLT, Int.reduceLE, reduceCtorEq, Nat.reduceMul, Nat.reduceLeDiff, S_api_Token.enc]
              rw [wp_ret]
              simp only [retQ, results, resultAll, resultOne, Nat.zero_add, RC, RL, RM, ↓evs_eq, loadN, sliceOp, cut, upon_each, buildOk, lookup, lookV, update, elemOf, Option.isSome_map, unOp, wanted, aop, tkB, neD, Env.get, Env.put, Env.keep, putD, dstOk, ev, constV, nilSlice, V.demote, V.toOwn, V.cells, ty, R1.res, binOp, isShift, binOpT, isC, intOp, strOp, shiftOp, byteV, index, indexAddr, slice, bounds, hiB, loB, withB, maxV, minV, evs, pickV, lenV, builtin, initEnv, convert, K.isU8, strOf, load, store, fieldOf, append, appT, fltOp, cpxV, realV, imagV, toInt, room, fill, placeOf, splice, repl, chunks, Ty.val, Ty.agg, V.plain, H.row, H.ety, AObj.row, Nat.reduceAdd, ↓reduceIte, Nat.reduceEqDiff, Nat.reduceBEq, Nat.reduceBNe, Nat.reduceLT, Int.reduceToNat, Int.reduceEq, Int.reduceLT, Int.reduceLE, reduceCtorEq, Nat.reduceMul, Nat.reduceLeDiff, S_api_Token.enc]
              refine ⟨_, (.refl _), ?_⟩
              exact hK _ hq
          · rw [wp_region]
            simp only [RC, RL, RM, ↓evs_eq, loadN, sliceOp, cut, upon_each, buildOk, lookup, lookV, update, elemOf, Option.isSome_map, unOp, wanted, aop, tkB, neD, Env.get, Env.put, Env.keep, putD, dstOk, ev, constV, nilSlice, V.demote, V.toOwn, V.cells, ty, R1.res, binOp, isShift, binOpT, isC, intOp, strOp, shiftOp, byteV, index, indexAddr, slice, bounds, hiB, loB, withB, maxV, minV, evs, pickV, lenV, builtin, initEnv, convert, K.isU8, strOf, load, store, fieldOf, append, appT, fltOp, cpxV, realV, imagV, toInt, room, fill, placeOf, splice, repl, chunks, Ty.val, Ty.agg, V.plain, H.row, H.ety, AObj.row, Nat.reduceAdd, ↓reduceIte, Nat.reduceEqDiff, Nat.reduceBEq, Nat.reduceBNe, Nat.reduceLT, Int.reduceToNat, Int.reduceEq, Int.reduceLT, Int.reduceLE, reduceCtorEq, Nat.reduceMul, Nat.reduceLeDiff, S_api_Token.enc]
            by_cases hc39 : (65 : Int) ≤ (x0.toNat : Int)
            · replace hq := (R.post_if hq).1 hc39
              simp only [decide_eq_true hc39, RC, RL, RM, ↓evs_eq, loadN, sliceOp, cut, upon_each, buildOk, lookup, lookV, update, elemOf, Option.isSome_map, unOp, wanted, aop, tkB, neD, Env.get, Env.put, Env.keep, putD, dstOk, ev, constV, nilSlice, V.demote, V.toOwn, V.cells, ty, R1.res, binOp, isShift, binOpT, isC, intOp, strOp, shiftOp, byteV, index, indexAddr, slice, bounds, hiB, loB, withB, maxV, minV, evs, pickV, lenV, builtin, initEnv, convert, K.isU8, strOf, load, store, fieldOf, append, appT, fltOp, cpxV, realV, imagV, toInt, room, fill, placeOf, splice, repl, chunks, Ty.val, Ty.agg, V.plain, H.row, H.ety, AObj.row, Nat.reduceAdd, ↓reduceIte, Nat.reduceEqDiff, Nat.reduceBEq, Nat.reduceBNe, Nat.reduceLT, Int.reduceToNat, Int.reduceEq, Int.reduceLT, Int.reduceLE, reduceCtorEq, Nat.reduceMul, Nat.reduceLeDiff, S_api_Token.enc]
              exact hN38 (decide ((x0.toNat : Int) ≤ 70)) hq
            · replace hq := (R.post_if hq).2 hc39
              simp only [decide_eq_false hc39, RC, RL, RM, ↓evs_eq, loadN, sliceOp, cut, upon_each, buildOk, lookup, lookV, update, elemOf, Option.isSome_map, unOp, wanted, aop, tkB, neD, Env.get, Env.put, Env.keep, putD, dstOk, ev, constV, nilSlice, V.demote, V.toOwn, V.cells, ty, R1.res, binOp, isShift, binOpT, isC, intOp, strOp, shiftOp, byteV, index, indexAddr, slice, bounds, hiB, loB, withB, maxV, minV, evs, pickV, lenV, builtin, initEnv, convert, K.isU8, strOf, load, store, fieldOf, append, appT, fltOp, cpxV, realV, imagV, toInt, room, fill, placeOf, splice, repl, chunks, Ty.val, Ty.agg, V.plain, H.row, H.ety, AObj.row, Nat.reduceAdd, ↓reduceIte, Nat.reduceEqDiff, Nat.reduceBEq, Nat.reduceBNe, Nat.reduceLT, Int.reduceToNat, Int.reduceEq, Int.reduceLT, Int.reduceLE, reduceCtorEq, Nat.reduceMul, Nat.reduceLeDiff, S_api_Token.enc]
              exact hN38 false hq
      · rw [wp_region]
        simp only [RC, RL, RM, ↓evs_eq, loadN, sliceOp, cut, upon_each, buildOk, lookup, lookV, update, elemOf, Option.isSome_map, unOp, wanted, aop, tkB, neD, Env.get, Env.put, Env.keep, putD, dstOk, ev, constV, nilSlice, V.demote, V.toOwn, V.cells, ty, R1.res, binOp, isShift, binOpT, isC, intOp, strOp, shiftOp, byteV, index, indexAddr, slice, bounds, hiB, loB, withB, maxV, minV, evs, pickV, lenV, builtin, initEnv, convert, K.isU8, strOf, load, store, fieldOf, append, appT, fltOp, cpxV, realV, imagV, toInt, room, fill, placeOf, splice, repl, chunks, Ty.val, Ty.agg, V.plain, H.row, H.ety, AObj.row, Nat.reduceAdd, ↓reduceIte, Nat.reduceEqDiff, Nat.reduceBEq, Nat.reduceBNe, Nat.reduceLT, Int.reduceToNat, Int.reduceEq, Int.reduceLT, Int.reduceLE, reduceCtorEq, Nat.reduceMul, Nat.reduceLeDiff, S_api_Token.enc]
        by_cases hc30 : (97 : Int) ≤ (x0.toNat : Int)
        · replace hq := (R.post_if hq).1 hc30
          simp only [decide_eq_true hc30, RC, RL, RM, ↓evs_eq, loadN, sliceOp, cut, upon_each, buildOk, lookup, lookV, update, elemOf, Option.isSome_map, unOp, wanted, aop, tkB, neD, Env.get, Env.put, Env.keep, putD, dstOk, ev, constV, nilSlice, V.demote, V.toOwn, V.cells, ty, R1.res, binOp, isShift, binOpT, isC, intOp, strOp, shiftOp, byteV, index, indexAddr, slice, bounds, hiB, loB, withB, maxV, minV, evs, pickV, lenV, builtin, initEnv, convert, K.isU8, strOf, load, store, fieldOf, append, appT, fltOp, cpxV, realV, imagV, toInt, room, fill, placeOf, splice, repl, chunks, Ty.val, Ty.agg, V.plain, H.row, H.ety, AObj.row, Nat.reduceAdd, ↓reduceIte, Nat.reduceEqDiff, Nat.reduceBEq, Nat.reduceBNe, Nat.reduceLT, Int.reduceToNat, Int.reduceEq, Int.reduceLT, Int.reduceLE, reduceCtorEq, Nat.reduceMul, Nat.reduceLeDiff, S_api_Token.enc]
          exact hN29 (decide ((x0.toNat : Int) ≤ 102)) hq
        · replace hq := (R.post_if hq).2 hc30
          simp only [decide_eq_false hc30, RC, RL, RM, ↓evs_eq, loadN, sliceOp, cut, upon_each, buildOk, lookup, lookV, update, elemOf, Option.isSome_map, unOp, wanted, aop, tkB, neD, Env.get, Env.put, Env.keep, putD, dstOk, ev, constV, nilSlice, V.demote, V.toOwn, V.cells, ty, R1.res, binOp, isShift, binOpT, isC, intOp, strOp, shiftOp, byteV, index, indexAddr, slice, bounds, hiB, loB, withB, maxV, minV, evs, pickV, lenV, builtin, initEnv, convert, K.isU8, strOf, load, store, fieldOf, append, appT, fltOp, cpxV, realV, imagV, toInt, room, fill, placeOf, splice, repl, chunks, Ty.val, Ty.agg, V.plain, H.row, H.ety, AObj.row, Nat.reduceAdd, ↓reduceIte, Nat.reduceEqDiff, Nat.reduceBEq, Nat.reduceBNe, Nat.reduceLT, Int.reduceToNat, Int.reduceEq, Int.reduceLT, Int.reduceLE, reduceCtorEq, Nat.reduceMul, Nat.reduceLeDiff, S_api_Token.enc]
          exact hN29 false hq
  · rw [wp_region]
    simp only [RC, RL, RM, ↓evs_eq, loadN, sliceOp, cut, upon_each, buildOk, lookup, lookV, update, elemOf, Option.isSome_map, unOp, wanted, aop, tkB, neD, Env.get, Env.put, Env.keep, putD, dstOk, ev, constV, nilSlice, V.demote, V.toOwn, V.cells, ty, R1.res, binOp, isShift, binOpT, isC, intOp, strOp, shiftOp, byteV, index, indexAddr, slice, bounds, hiB, loB, withB, maxV, minV, evs, pickV, lenV, builtin, initEnv, convert, K.isU8, strOf, load, store, fieldOf, append, appT, fltOp, cpxV, realV, imagV, toInt, room, fill, placeOf, splice, repl, chunks, Ty.val, Ty.agg, V.plain, H.row, H.ety, AObj.row, Nat.reduceAdd, ↓reduceIte, Nat.reduceEqDiff, Nat.reduceBEq, Nat.reduceBNe, Nat.reduceLT, Int.reduceToNat, Int.reduceEq, Int.reduceLT, Int.reduceLE, reduceCtorEq, Nat.reduceMul, Nat.reduceLeDiff, S_api_Token.enc]
    by_cases hc21 : (48 : Int) ≤ (x0.toNat : Int)
    · replace hq := (R.post_if hq).1 hc21
      simp only [decide_eq_true hc21, RC, RL, RM, ↓evs_eq, loadN, sliceOp, cut, upon_each, buildOk, lookup, lookV, update, elemOf, Option.isSome_map, unOp, wanted, aop, tkB, neD, Env.get, Env.put, Env.keep, putD, dstOk, ev, constV, nilSlice, V.demote, V.toOwn, V.cells, ty, R1.res, binOp, isShift, binOpT, isC, intOp, strOp, shiftOp, byteV, index, indexAddr, slice, bounds, hiB, loB, withB, maxV, minV, evs, pickV, lenV, builtin, initEnv, convert, K.isU8, strOf, load, store, fieldOf, append, appT, fltOp, cpxV, realV, imagV, toInt, room, fill, placeOf, splice, repl, chunks, Ty.val, Ty.agg, V.plain, H.row, H.ety, AObj.row, Nat.reduceAdd, ↓reduceIte, Nat.reduceEqDiff, Nat.reduceBEq, Nat.reduceBNe, Nat.reduceLT, Int.reduceToNat, Int.reduceEq, Int.reduceLT, Int.reduceLE, reduceCtorEq, Nat.reduceMul, Nat.reduceLeDiff, S_api_Token.enc]
      exact hN20 (decide ((x0.toNat : Int) ≤ 57)) hq
    · replace hq := (R.post_if hq).2 hc21
      simp only [decide_eq_false hc21, RC, RL, RM, ↓evs_eq, loadN, sliceOp, cut, upon_each, buildOk, lookup, lookV, update, elemOf, Option.isSome_map, unOp, wanted, aop, tkB, neD, Env.get, Env.put, Env.keep, putD, dstOk, ev, constV, nilSlice, V.demote, V.toOwn, V.cells, ty, R1.res, binOp, isShift, binOpT, isC, intOp, strOp, shiftOp, byteV, index, indexAddr, slice, bounds, hiB, loB, withB, maxV, minV, evs, pickV, lenV, builtin, initEnv, convert, K.isU8, strOf, load, store, fieldOf, append, appT, fltOp, cpxV, realV, imagV, toInt, room, fill, placeOf, splice, repl, chunks, Ty.val, Ty.agg, V.plain, H.row, H.ety, AObj.row, Nat.reduceAdd, ↓reduceIte, Nat.reduceEqDiff, Nat.reduceBEq, Nat.reduceBNe, Nat.reduceLT, Int.reduceToNat, Int.reduceEq, Int.reduceLT, Int.reduceLE, reduceCtorEq, Nat.reduceMul, Nat.reduceLeDiff, S_api_Token.enc]
      exact hN20 false hq

def quote_Number_j0 (x0_16 : List UInt8) (x5_54 : Int) : R (Int × Bool) :=
  R.ok (x5_54, (!(decide (x0_16 = []))))
def quote_Number_l1 (x0_16 : List UInt8) (x4_16 : Int) : Nat → Int → Int → R ((Int) ⊕ (Int × Bool))
  | 0, _, _ => R.stuck
  | k + 1, x5_56, x40_56 => if x40_56 < (List.length x0_16 : Int) then (if 0 ≤ x40_56 ∧ x40_56 < (List.length x0_16 : Int) then ((quote_worth (gt x0_16 x40_56)).bind fun r83 => (if x4_16 ≤ (IntKind.wrap .u64 r83) then (R.ok true) else (if ¬ x4_16 = 0 then (R.ok (decide ((IntKind.wrap .u64 (Int.tdiv (IntKind.wrap .u64 (18446744073709551615 - (IntKind.wrap .u64 r83))) x4_16)) < x5_56))) else R.stuck)).bind fun x57m86 => if x57m86 = true then (R.ok (.inr (0, false))) else (quote_Number_l1 x0_16 x4_16 k (IntKind.wrap .u64 ((IntKind.wrap .u64 (x5_56 * x4_16)) + (IntKind.wrap .u64 r83))) (IntKind.wrap .i64 (x40_56 + 1)))) else R.stuck) else (R.ok (.inl x5_56))
def quote_Number_j2 (x0_16 : List UInt8) (x4_16 : Int) : R (Int × Bool) :=
  (quote_Number_l1 x0_16 x4_16 Many 0 0).bind fun | (.inl x5p96) => quote_Number_j0 x0_16 x5p96 | (.inr rp97) => R.ok rp97
def quote_Number (x0 : List UInt8) : R (Int × Bool) :=
  (if (2 : Int) < (List.length x0 : Int) then (if 0 ≤ 0 ∧ 0 < (List.length x0 : Int) then (if ((List.getD x0 0 0).toNat : Int) = 48 then (if 0 ≤ 1 ∧ 1 < (List.length x0 : Int) then (R.ok (decide (((u8 (bitsV .or .u8 ((List.getD x0 1 0).toNat : Int) 32)).toNat : Int) = 120))) else R.stuck) else (R.ok false)) else R.stuck) else (R.ok false)).bind fun x9m104 => if x9m104 = true then (if 0 ≤ 2 ∧ 2 ≤ (List.length x0 : Int) then (quote_Number_j2 (List.drop 2 x0) 16) else R.stuck) else ((if (1 : Int) < (List.length x0 : Int) then (if 0 ≤ 0 ∧ 0 < (List.length x0 : Int) then (R.ok (decide (((List.getD x0 0 0).toNat : Int) = 48))) else R.stuck) else (R.ok false)).bind fun x26m118 => if x26m118 = true then (if 0 ≤ 1 ∧ 1 ≤ (List.length x0 : Int) then (quote_Number_j2 (List.drop 1 x0) 8) else R.stuck) else (quote_Number_j2 x0 10))
theorem quote_Number_call {h : H} {x0 : List UInt8} {Q : Out → H → Prop} {KK : (Int × Bool) → Prop} {X : V → Prop} (hq : (quote_Number x0).post KK X) (hK : ∀ r, KK r → Q (.ret (.tup [.int .u64 r.1, .bool r.2])) h) (hX : ∀ v, X v → V.Cl 0 v ∧ Q (.panic v) h) : CA qprim 32 [.str x0] h Q := by
  refine acalln hp Try.func32 rfl (by kernel_rfl) (n := 67) rfl (rs := [.tmp 2, .tmp 3]) rfl [0, 2, 3, 4, 5, 7, 8, 9, 26, 38, 39, 40, 41, 57] [] false (by simp) ?_
  unfold quote_Number at hq
  simp only [initEnv, List.map_cons, List.map_nil, List.getD_cons_zero, List.getD_cons_succ, List.getD_nil, V.demote]
  rw [wp_seq]
  rw [wp_region]
  simp only [RC, RL, RM, ↓evs_eq, loadN, sliceOp, cut, upon_each, buildOk, lookup, lookV, update, elemOf, Option.isSome_map, unOp, wanted, aop, tkB, neD, Env.get, Env.put, Env.keep, putD, dstOk, ev, constV, nilSlice, V.demote, V.toOwn, V.cells, ty, R1.res, binOp, isShift, binOpT, isC, intOp, strOp, shiftOp, byteV, index, indexAddr, slice, bounds, hiB, loB, withB, maxV, minV, evs, pickV, lenV, builtin, initEnv, convert, K.isU8, strOf, load, store, fieldOf, append, appT, fltOp, cpxV, realV, imagV, toInt, room, fill, placeOf, splice, repl, chunks, Ty.val, Ty.agg, V.plain, H.row, H.ety, AObj.row, Nat.reduceAdd, ↓reduceIte, Nat.reduceEqDiff, Nat.reduceBEq, Nat.reduceBNe, Nat.reduceLT, Int.reduceToNat, Int.reduceEq, Int.reduceLT, Int.reduceLE, reduceCtorEq, Nat.reduceMul, Nat.reduceLeDiff, S_api_Token.enc]
  rw [wp_seq]
  rw [wp_region]
  simp only [RC, RL, RM, ↓evs_eq, loadN, sliceOp, cut, upon_each, buildOk, lookup, lookV, update, elemOf, Option.isSome_map, unOp, wanted, aop, tkB, neD, Env.get, Env.put, Env.keep, putD, dstOk, ev, constV, nilSlice, V.demote, V.toOwn, V.cells, ty, R1.res, binOp, isShift, binOpT, isC, intOp, strOp, shiftOp, byteV, index, indexAddr, slice, bounds, hiB, loB, withB, maxV, minV, evs, pickV, lenV, builtin, initEnv, convert, K.isU8, strOf, load, store, fieldOf, append, appT, fltOp, cpxV, realV, imagV, toInt, room, fill, placeOf, splice, repl, chunks, Ty.val, Ty.agg, V.plain, H.row, H.ety, AObj.row, Nat.reduceAdd, ↓reduceIte, Nat.reduceEqDiff, Nat.reduceBEq, Nat.reduceBNe, Nat.reduceLT, Int.reduceToNat, Int.reduceEq, Int.reduceLT, Int.reduceLE, reduceCtorEq, Nat.reduceMul, Nat.reduceLeDiff, S_api_Token.enc]
  refine seq_gen (acall_mono hp) (σ := (List UInt8) × Int × V × V) (fun s => [(0, .str s.1), (2, .int .u64 0), (3, .bool false), (4, .int .u64 s.2.1), (5, .top), (7, .top), (8, .top), (9, s.2.2.1), (26, s.2.2.2), (38, .top), (39, .top), (40, .top), (41, .top), (57, .top)]) (fun s => h) (fun s => (quote_Number_j2 s.1 s.2.1).post KK X) (fun s hq => ?_) (fun N hN98 => ?_)
  · obtain ⟨x0_16, x4_16, y9_16, y26_16⟩ := s
    try dsimp only at hq ⊢
    unfold quote_Number_j2 at hq
    rw [wp_seq]
    rw [wp_region]
    simp only [RC, RL, RM, ↓evs_eq, loadN, sliceOp, cut, upon_each, buildOk, lookup, lookV, update, elemOf, Option.isSome_map, unOp, wanted, aop, tkB, neD, Env.get, Env.put, Env.keep, putD, dstOk, ev, constV, nilSlice, V.demote, V.toOwn, V.cells, ty, R1.res, binOp, isShift, binOpT, isC, intOp, strOp, shiftOp, byteV, index, indexAddr, slice, bounds, hiB, loB, withB, maxV, minV, evs, pickV, lenV, builtin, initEnv, convert, K.isU8, strOf, load, store, fieldOf, append, appT, fltOp, cpxV, realV, imagV, toInt, room, fill, placeOf, splice, repl, chunks, Ty.val, Ty.agg, V.plain, H.row, H.ety, AObj.row, Nat.reduceAdd, ↓reduceIte, Nat.reduceEqDiff, Nat.reduceBEq, Nat.reduceBNe, Nat.reduceLT, Int.reduceToNat, Int.reduceEq, Int.reduceLT, Int.reduceLE, reduceCtorEq, Nat.reduceMul, Nat.reduceLeDiff, S_api_Token.enc]
    refine seq_gen (acall_mono hp) (σ := V × V × Int × V × V × V × V × V × V × V × V × V) (fun s => [(0, .str x0_16), (2, s.1), (3, s.2.1), (4, .int .u64 x4_16), (5, .int .u64 s.2.2.1), (7, s.2.2.2.1), (8, s.2.2.2.2.1), (9, s.2.2.2.2.2.1), (26, s.2.2.2.2.2.2.1), (38, s.2.2.2.2.2.2.2.1), (39, s.2.2.2.2.2.2.2.2.1), (40, s.2.2.2.2.2.2.2.2.2.1), (41, s.2.2.2.2.2.2.2.2.2.2.1), (57, s.2.2.2.2.2.2.2.2.2.2.2)]) (fun s => h) (fun s => (quote_Number_j0 x0_16 s.2.2.1).post KK X) (fun s hq => ?_) (fun N hN55 => ?_)
    · obtain ⟨y2_54, y3_54, x5_54, y7_54, y8_54, y9_54, y26_54, y38_54, y39_54, y40_54, y41_54, y57_54⟩ := s
      try dsimp only at hq ⊢
      unfold quote_Number_j0 at hq
      rw [wp_seq]
      rw [wp_region]
      simp only [RC, RL, RM, ↓evs_eq, loadN, sliceOp, cut, upon_each, buildOk, lookup, lookV, update, elemOf, Option.isSome_map, unOp, wanted, aop, tkB, neD, Env.get, Env.put, Env.keep, putD, dstOk, ev, constV, nilSlice, V.demote, V.toOwn, V.cells, ty, R1.res, binOp, isShift, binOpT, isC, intOp, strOp, shiftOp, byteV, index, indexAddr, slice, bounds, hiB, loB, withB, maxV, minV, evs, pickV, lenV, builtin, initEnv, convert, K.isU8, strOf, load, store, fieldOf, append, appT, fltOp, cpxV, realV, imagV, toInt, room, fill, placeOf, splice, repl, chunks, Ty.val, Ty.agg, V.plain, H.row, H.ety, AObj.row, Nat.reduceAdd, ↓reduceIte, Nat.reduceEqDiff, Nat.reduceBEq, Nat.reduceBNe, Nat.reduceLT, Int.reduceToNat, Int.reduceEq, Int.reduceLT, Int.reduceLE, reduceCtorEq, Nat.reduceMul, Nat.reduceLeDiff, S_api_Token.enc]
      rw [wp_ret]
      simp only [retQ, results, resultAll, resultOne, Nat.zero_add, RC, RL, RM, ↓evs_eq, loadN, sliceOp, cut, upon_each, buildOk, lookup, lookV, update, elemOf, Option.isSome_map, unOp, wanted, aop, tkB, neD, Env.get, Env.put, Env.keep, putD, dstOk, ev, constV, nilSlice, V.demote, V.toOwn, V.cells, ty, R1.res, binOp, isShift, binOpT, isC, intOp, strOp, shiftOp, byteV, index, indexAddr, slice, bounds, hiB, loB, withB, maxV, minV, evs, pickV, lenV, builtin, initEnv, convert, K.isU8, strOf, load, store, fieldOf, append, appT, fltOp, cpxV, realV, imagV, toInt, room, fill, placeOf, splice, repl, chunks, Ty.val, Ty.agg, V.plain, H.row, H.ety, AObj.row, Nat.reduceAdd, ↓reduceIte, Nat.reduceEqDiff, Nat.reduceBEq, Nat.reduceBNe, Nat.reduceLT, Int.reduceToNat, Int.reduceEq, Int.reduceLT, Int.reduceLE, reduceCtorEq, Nat.reduceMul, Nat.reduceLeDiff, S_api_Token.enc]
      refine ⟨_, (.refl _), ?_⟩
      exact hK _ hq
    · rw [wp_seq]
      rw [wp_region]
      simp only [RC, RL, RM, ↓evs_eq, loadN, sliceOp, cut, upon_each, buildOk, lookup, lookV, update, elemOf, Option.isSome_map, unOp, wanted, aop, tkB, neD, Env.get, Env.put, Env.keep, putD, dstOk, ev, constV, nilSlice, V.demote, V.toOwn, V.cells, ty, R1.res, binOp, isShift, binOpT, isC, intOp, strOp, shiftOp, byteV, index, indexAddr, slice, bounds, hiB, loB, withB, maxV, minV, evs, pickV, lenV, builtin, initEnv, convert, K.isU8, strOf, load, store, fieldOf, append, appT, fltOp, cpxV, realV, imagV, toInt, room, fill, placeOf, splice, repl, chunks, Ty.val, Ty.agg, V.plain, H.row, H.ety, AObj.row, Nat.reduceAdd, ↓reduceIte, Nat.reduceEqDiff, Nat.reduceBEq, Nat.reduceBNe, Nat.reduceLT, Int.reduceToNat, Int.reduceEq, Int.reduceLT, Int.reduceLE, reduceCtorEq, Nat.reduceMul, Nat.reduceLeDiff, S_api_Token.enc]
      rw [wp_block]
      refine loop_in ?_
      refine Wk.le (EnvLe.cons (.refl _) (EnvLe.cons (.top _) (EnvLe.cons (.top _) (EnvLe.cons (.refl _) (EnvLe.cons (.refl _) (EnvLe.cons (.refl _) (EnvLe.cons (.refl _) (EnvLe.cons (.refl _) (EnvLe.cons (.refl _) (EnvLe.cons (.refl _) (EnvLe.cons (.refl _) (EnvLe.cons (.refl _) (EnvLe.cons (.refl _) (EnvLe.cons (.refl _) EnvLe.nil)))))))))))))) ?_
      obtain ⟨K72, hK73, hq⟩ := R.post_cut hq
      refine loop_gen (acall_mono hp) (σ := V × V × Int × V × V × Int × V × V) (fun s => [(0, .str x0_16), (2, s.1), (3, s.2.1), (4, .int .u64 x4_16), (5, .int .u64 s.2.2.1), (7, s.2.2.2.1), (8, s.2.2.2.2.1), (9, y9_16), (26, y26_16), (38, .sl 1 (List.map byteV x0_16)), (39, .int .i64 (List.length x0_16 : Int)), (40, .int .i64 s.2.2.2.2.2.1), (41, s.2.2.2.2.2.2.1), (57, s.2.2.2.2.2.2.2)]) (fun s => h) (fun k s => (quote_Number_l1 x0_16 x4_16 k s.2.2.1 s.2.2.2.2.2.1).post K72 X) (fun s hs => hs) (fun k95 s hq N hN74 => ?_) _ (_, _, 0, _, _, 0, _, _) hq
      obtain ⟨y2_56, y3_56, x5_56, y7_56, y8_56, x40_56, y41_56, y57_56⟩ := s
      try dsimp only at hq ⊢
      rw [quote_Number_l1] at hq
      rw [wp_seq]
      rw [wp_region]
      simp only [RC, RL, RM, ↓evs_eq, loadN, sliceOp, cut, upon_each, buildOk, lookup, lookV, update, elemOf, Option.isSome_map, unOp, wanted, aop, tkB, neD, Env.get, Env.put, Env.keep, putD, dstOk, ev, constV, nilSlice, V.demote, V.toOwn, V.cells, ty, R1.res, binOp, isShift, binOpT, isC, intOp, strOp, shiftOp, byteV, index, indexAddr, slice, bounds, hiB, loB, withB, maxV, minV, evs, pickV, lenV, builtin, initEnv, convert, K.isU8, strOf, load, store, fieldOf, append, appT, fltOp, cpxV, realV, imagV, toInt, room, fill, placeOf, splice, repl, chunks, Ty.val, Ty.agg, V.plain, H.row, H.ety, AObj.row, Nat.reduceAdd, ↓reduceIte, Nat.reduceEqDiff, Nat.reduceBEq, Nat.reduceBNe, Nat.reduceLT, Int.reduceToNat, Int.reduceEq, Int.reduceLT, Int.reduceLE, reduceCtorEq, Nat.reduceMul, Nat.reduceLeDiff, S_api_Token.enc]
      rw [wp_seq]
      rw [wp_cond]
      simp only [RC, RL, RM, ↓evs_eq, loadN, sliceOp, cut, upon_each, buildOk, lookup, lookV, update, elemOf, Option.isSome_map, unOp, wanted, aop, tkB, neD, Env.get, Env.put, Env.keep, putD, dstOk, ev, constV, nilSlice, V.demote, V.toOwn, V.cells, ty, R1.res, binOp, isShift, binOpT, isC, intOp, strOp, shiftOp, byteV, index, indexAddr, slice, bounds, hiB, loB, withB, maxV, minV, evs, pickV, lenV, builtin, initEnv, convert, K.isU8, strOf, load, store, fieldOf, append, appT, fltOp, cpxV, realV, imagV, toInt, room, fill, placeOf, splice, repl, chunks, Ty.val, Ty.agg, V.plain, H.row, H.ety, AObj.row, Nat.reduceAdd, ↓reduceIte, Nat.reduceEqDiff, Nat.reduceBEq, Nat.reduceBNe, Nat.reduceLT, Int.reduceToNat, Int.reduceEq, Int.reduceLT, Int.reduceLE, reduceCtorEq, Nat.reduceMul, Nat.reduceLeDiff, S_api_Token.enc]
      by_cases hc75 : x40_56 < (List.length x0_16 : Int)
      · replace hq := (R.post_if hq).1 hc75
        refine condK_t (congrArg V.bool (decide_eq_true hc75)) ?_
        try simp only [wp_skip, RC]
        refine Wk.same ?_
        try simp only [RC]
        rw [wp_seq]
        rw [wp_block]
        rw [wp_seq]
        rw [wp_region]
        obtain ⟨g78, hq⟩ := R.guard hq
        have e79 := map_gt (f := byteV) (l := x0_16) (i := x40_56) g78
        simp only [e79, RC, RL, RM, ↓evs_eq, loadN, sliceOp, cut, upon_each, buildOk, lookup, lookV, update, elemOf, Option.isSome_map, unOp, wanted, aop, tkB, neD, Env.get, Env.put, Env.keep, putD, dstOk, ev, constV, nilSlice, V.demote, V.toOwn, V.cells, ty, R1.res, binOp, isShift, binOpT, isC, intOp, strOp, shiftOp, byteV, index, indexAddr, slice, bounds, hiB, loB, withB, maxV, minV, evs, pickV, lenV, builtin, initEnv, convert, K.isU8, strOf, load, store, fieldOf, append, appT, fltOp, cpxV, realV, imagV, toInt, room, fill, placeOf, splice, repl, chunks, Ty.val, Ty.agg, V.plain, H.row, H.ety, AObj.row, Nat.reduceAdd, ↓reduceIte, Nat.reduceEqDiff, Nat.reduceBEq, Nat.reduceBNe, Nat.reduceLT, Int.reduceToNat, Int.reduceEq, Int.reduceLT, Int.reduceLE, reduceCtorEq, Nat.reduceMul, Nat.reduceLeDiff, S_api_Token.enc]
        repeat (with_reducible refine And.intro (by first | omega | assumption) ?_)
        rw [wp_seq]
        rw [wp_region]
        simp only [RC, RL, RM, ↓evs_eq, loadN, sliceOp, cut, upon_each, buildOk, lookup, lookV, update, elemOf, Option.isSome_map, unOp, wanted, aop, tkB, neD, Env.get, Env.put, Env.keep, putD, dstOk, ev, constV, nilSlice, V.demote, V.toOwn, V.cells, ty, R1.res, binOp, isShift, binOpT, isC, intOp, strOp, shiftOp, byteV, index, indexAddr, slice, bounds, hiB, loB, withB, maxV, minV, evs, pickV, lenV, builtin, initEnv, convert, K.isU8, strOf, load, store, fieldOf, append, appT, fltOp, cpxV, realV, imagV, toInt, room, fill, placeOf, splice, repl, chunks, Ty.val, Ty.agg, V.plain, H.row, H.ety, AObj.row, Nat.reduceAdd, ↓reduceIte, Nat.reduceEqDiff, Nat.reduceBEq, Nat.reduceBNe, Nat.reduceLT, Int.reduceToNat, Int.reduceEq, Int.reduceLT, Int.reduceLE, reduceCtorEq, Nat.reduceMul, Nat.reduceLeDiff, S_api_Token.enc]
        obtain ⟨K93, hK94, hq⟩ := R.post_cut hq
        refine quote_worth_call (x0 := (gt x0_16 x40_56)) hq (fun r83 hq => ?_) (fun v hv => ⟨(hX v hv).1, ?_⟩)
        · replace hq := hK94 _ hq
          simp only [RC, RL, RM, ↓evs_eq, loadN, sliceOp, cut, upon_each, buildOk, lookup, lookV, update, elemOf, Option.isSome_map, unOp, wanted, aop, tkB, neD, Env.get, Env.put, Env.keep, putD, dstOk, ev, constV, nilSlice, V.demote, V.toOwn, V.cells, ty, R1.res, binOp, isShift, binOpT, isC, intOp, strOp, shiftOp, byteV, index, indexAddr, slice, bounds, hiB, loB, withB, maxV, minV, evs, pickV, lenV, builtin, initEnv, convert, K.isU8, strOf, load, store, fieldOf, append, appT, fltOp, cpxV, realV, imagV, toInt, room, fill, placeOf, splice, repl, chunks, Ty.val, Ty.agg, V.plain, H.row, H.ety, AObj.row, Nat.reduceAdd, ↓reduceIte, Nat.reduceEqDiff, Nat.reduceBEq, Nat.reduceBNe, Nat.reduceLT, Int.reduceToNat, Int.reduceEq, Int.reduceLT, Int.reduceLE, reduceCtorEq, Nat.reduceMul, Nat.reduceLeDiff, S_api_Token.enc]
          rw [wp_seq]
          obtain ⟨K87, hK88, hq⟩ := R.post_cut hq
          refine seq_gen (acall_mono hp) (σ := Bool) (fun s => [(0, .str x0_16), (2, y2_56), (3, y3_56), (4, .int .u64 x4_16), (5, .int .u64 x5_56), (7, .int .u8 ((gt x0_16 x40_56).toNat : Int)), (8, .int .u64 (IntKind.wrap .u64 r83)), (9, y9_16), (26, y26_16), (38, .sl 1 (List.map byteV x0_16)), (39, .int .i64 (List.length x0_16 : Int)), (40, .int .i64 x40_56), (41, .bool (decide (x40_56 < (List.length x0_16 : Int)))), (57, .bool s)]) (fun s => h) (fun s => K87 s) (fun x57m86 hq => ?_) (fun N hN89 => ?_)
          · replace hq := hK88 _ hq
            try dsimp only at hq ⊢
            rw [wp_cond]
            simp only [RC, RL, RM, ↓evs_eq, loadN, sliceOp, cut, upon_each, buildOk, lookup, lookV, update, elemOf, Option.isSome_map, unOp, wanted, aop, tkB, neD, Env.get, Env.put, Env.keep, putD, dstOk, ev, constV, nilSlice, V.demote, V.toOwn, V.cells, ty, R1.res, binOp, isShift, binOpT, isC, intOp, strOp, shiftOp, byteV, index, indexAddr, slice, bounds, hiB, loB, withB, maxV, minV, evs, pickV, lenV, builtin, initEnv, convert, K.isU8, strOf, load, store, fieldOf, append, appT, fltOp, cpxV, realV, imagV, toInt, room, fill, placeOf, splice, repl, chunks, Ty.val, Ty.agg, V.plain, H.row, H.ety, AObj.row, Nat.reduceAdd, ↓reduceIte, Nat.reduceEqDiff, Nat.reduceBEq, Nat.reduceBNe, Nat.reduceLT, Int.reduceToNat, Int.reduceEq, Int.reduceLT, Int.reduceLE, reduceCtorEq, Nat.reduceMul, Nat.reduceLeDiff, S_api_Token.enc]
            by_cases hc92 : x57m86 = true
            · replace hq := (R.post_if hq).1 hc92
              refine condK_t (congrArg V.bool (hc92)) ?_
              rw [wp_seq]
              rw [wp_region]
              simp only [RC, RL, RM, ↓evs_eq, loadN, sliceOp, cut, upon_each, buildOk, lookup, lookV, update, elemOf, Option.isSome_map, unOp, wanted, aop, tkB, neD, Env.get, Env.put, Env.keep, putD, dstOk, ev, constV, nilSlice, V.demote, V.toOwn, V.cells, ty, R1.res, binOp, isShift, binOpT, isC, intOp, strOp, shiftOp, byteV, index, indexAddr, slice, bounds, hiB, loB, withB, maxV, minV, evs, pickV, lenV, builtin, initEnv, convert, K.isU8, strOf, load, store, fieldOf, append, appT, fltOp, cpxV, realV, imagV, toInt, room, fill, placeOf, splice, repl, chunks, Ty.val, Ty.agg, V.plain, H.row, H.ety, AObj.row, Nat.reduceAdd, ↓reduceIte, Nat.reduceEqDiff, Nat.reduceBEq, Nat.reduceBNe, Nat.reduceLT, Int.reduceToNat, Int.reduceEq, Int.reduceLT, Int.reduceLE, reduceCtorEq, Nat.reduceMul, Nat.reduceLeDiff, S_api_Token.enc]
              rw [wp_ret]
              simp only [retQ, results, resultAll, resultOne, Nat.zero_add, RC, RL, RM, ↓evs_eq, loadN, sliceOp, cut, upon_each, buildOk, lookup, lookV, update, elemOf, Option.isSome_map, unOp, wanted, aop, tkB, neD, Env.get, Env.put, Env.keep, putD, dstOk, ev, constV, nilSlice, V.demote, V.toOwn, V.cells, ty, R1.res, binOp, isShift, binOpT, isC, intOp, strOp, shiftOp, byteV, index, indexAddr, slice, bounds, hiB, loB, withB, maxV, minV, evs, pickV, lenV, builtin, initEnv, convert, K.isU8, strOf, load, store, fieldOf, append, appT, fltOp, cpxV, realV, imagV, toInt, room, fill, placeOf, splice, repl, chunks, Ty.val, Ty.agg, V.plain, H.row, H.ety, AObj.row, Nat.reduceAdd, ↓reduceIte, Nat.reduceEqDiff, Nat.reduceBEq, Nat.reduceBNe, Nat.reduceLT, Int.reduceToNat, Int.reduceEq, Int.reduceLT, Int.reduceLE, reduceCtorEq, Nat.reduceMul, Nat.reduceLeDiff, S_api_Token.enc]
              refine ⟨_, (.refl _), ?_⟩
              replace hq := hK73 _ hq
              exact hK _ hq
            · replace hq := (R.post_if hq).2 hc92
              replace hc92 := eq_false_of_ne_true hc92
              refine condK_f (congrArg V.bool (hc92)) ?_
              try simp only [wp_skip, RC]
              refine Wk.same ?_
              try simp only [RC]
              rw [wp_region]
              simp only [RC, RL, RM, ↓evs_eq, loadN, sliceOp, cut, upon_each, buildOk, lookup, lookV, update, elemOf, Option.isSome_map, unOp, wanted, aop, tkB, neD, Env.get, Env.put, Env.keep, putD, dstOk, ev, constV, nilSlice, V.demote, V.toOwn, V.cells, ty, R1.res, binOp, isShift, binOpT, isC, intOp, strOp, shiftOp, byteV, index, indexAddr, slice, bounds, hiB, loB, withB, maxV, minV, evs, pickV, lenV, builtin, initEnv, convert, K.isU8, strOf, load, store, fieldOf, append, appT, fltOp, cpxV, realV, imagV, toInt, room, fill, placeOf, splice, repl, chunks, Ty.val, Ty.agg, V.plain, H.row, H.ety, AObj.row, Nat.reduceAdd, ↓reduceIte, Nat.reduceEqDiff, Nat.reduceBEq, Nat.reduceBNe, Nat.reduceLT, Int.reduceToNat, Int.reduceEq, Int.reduceLT, Int.reduceLE, reduceCtorEq, Nat.reduceMul, Nat.reduceLeDiff, S_api_Token.enc]
              refine Wk.same ?_
              try simp only [RC]
              rw [wp_region]
              simp only [RC, RL, RM, ↓evs_eq, loadN, sliceOp, cut, upon_each, buildOk, lookup, lookV, update, elemOf, Option.isSome_map, unOp, wanted, aop, tkB, neD, Env.get, Env.put, Env.keep, putD, dstOk, ev, constV, nilSlice, V.demote, V.toOwn, V.cells, ty, R1.res, binOp, isShift, binOpT, isC, intOp, strOp, shiftOp, byteV, index, indexAddr, slice, bounds, hiB, loB, withB, maxV, minV, evs, pickV, lenV, builtin, initEnv, convert, K.isU8, strOf, load, store, fieldOf, append, appT, fltOp, cpxV, realV, imagV, toInt, room, fill, placeOf, splice, repl, chunks, Ty.val, Ty.agg, V.plain, H.row, H.ety, AObj.row, Nat.reduceAdd, ↓reduceIte, Nat.reduceEqDiff, Nat.reduceBEq, Nat.reduceBNe, Nat.reduceLT, Int.reduceToNat, Int.reduceEq, Int.reduceLT, Int.reduceLE, reduceCtorEq, Nat.reduceMul, Nat.reduceLeDiff, S_api_Token.enc]
              refine Wk.le (EnvLe.cons (.refl _) (EnvLe.cons (.refl _) (EnvLe.cons (.refl _) (EnvLe.cons (.refl _) (EnvLe.cons (.refl _) (EnvLe.cons (.top _) (EnvLe.cons (.top _) (EnvLe.cons (.refl _) (EnvLe.cons (.refl _) (EnvLe.cons (.refl _) (EnvLe.cons (.refl _) (EnvLe.cons (.refl _) (EnvLe.cons (.top _) (EnvLe.cons (.top _) EnvLe.nil)))))))))))))) ?_
              exact hN74 (_, _, (IntKind.wrap .u64 ((IntKind.wrap .u64 (x5_56 * x4_16)) + (IntKind.wrap .u64 r83))), _, _, (IntKind.wrap .i64 (x40_56 + 1)), _, _) hq
          · rw [wp_region]
            simp only [RC, RL, RM, ↓evs_eq, loadN, sliceOp, cut, upon_each, buildOk, lookup, lookV, update, elemOf, Option.isSome_map, unOp, wanted, aop, tkB, neD, Env.get, Env.put, Env.keep, putD, dstOk, ev, constV, nilSlice, V.demote, V.toOwn, V.cells, ty, R1.res, binOp, isShift, binOpT, isC, intOp, strOp, shiftOp, byteV, index, indexAddr, slice, bounds, hiB, loB, withB, maxV, minV, evs, pickV, lenV, builtin, initEnv, convert, K.isU8, strOf, load, store, fieldOf, append, appT, fltOp, cpxV, realV, imagV, toInt, room, fill, placeOf, splice, repl, chunks, Ty.val, Ty.agg, V.plain, H.row, H.ety, AObj.row, Nat.reduceAdd, ↓reduceIte, Nat.reduceEqDiff, Nat.reduceBEq, Nat.reduceBNe, Nat.reduceLT, Int.reduceToNat, Int.reduceEq, Int.reduceLT, Int.reduceLE, reduceCtorEq, Nat.reduceMul, Nat.reduceLeDiff, S_api_Token.enc]
            by_cases hc90 : x4_16 ≤ (IntKind.wrap .u64 r83)
            · replace hq := (R.post_if hq).1 hc90
              simp only [decide_eq_true hc90, RC, RL, RM, ↓evs_eq, loadN, sliceOp, cut, upon_each, buildOk, lookup, lookV, update, elemOf, Option.isSome_map, unOp, wanted, aop, tkB, neD, Env.get, Env.put, Env.keep, putD, dstOk, ev, constV, nilSlice, V.demote, V.toOwn, V.cells, ty, R1.res, binOp, isShift, binOpT, isC, intOp, strOp, shiftOp, byteV, index, indexAddr, slice, bounds, hiB, loB, withB, maxV, minV, evs, pickV, lenV, builtin, initEnv, convert, K.isU8, strOf, load, store, fieldOf, append, appT, fltOp, cpxV, realV, imagV, toInt, room, fill, placeOf, splice, repl, chunks, Ty.val, Ty.agg, V.plain, H.row, H.ety, AObj.row, Nat.reduceAdd, ↓reduceIte, Nat.reduceEqDiff, Nat.reduceBEq, Nat.reduceBNe, Nat.reduceLT, Int.reduceToNat, Int.reduceEq, Int.reduceLT, Int.reduceLE, reduceCtorEq, Nat.reduceMul, Nat.reduceLeDiff, S_api_Token.enc]
              exact hN89 true hq
            · replace hq := (R.post_if hq).2 hc90
              obtain ⟨g91, hq⟩ := R.guard hq
              simp only [decide_eq_false hc90, RC, RL, RM, ↓evs_eq, loadN, sliceOp, cut, upon_each, buildOk, lookup, lookV, update, elemOf, Option.isSome_map, unOp, wanted, aop, tkB, neD, Env.get, Env.put, Env.keep, putD, dstOk, ev, constV, nilSlice, V.demote, V.toOwn, V.cells, ty, R1.res, binOp, isShift, binOpT, isC, intOp, strOp, shiftOp, byteV, index, indexAddr, slice, bounds, hiB, loB, withB, maxV, minV, evs, pickV, lenV, builtin, initEnv, convert, K.isU8, strOf, load, store, fieldOf, append, appT, fltOp, cpxV, realV, imagV, toInt, room, fill, placeOf, splice, repl, chunks, Ty.val, Ty.agg, V.plain, H.row, H.ety, AObj.row, Nat.reduceAdd, ↓reduceIte, Nat.reduceEqDiff, Nat.reduceBEq, Nat.reduceBNe, Nat.reduceLT, Int.reduceToNat, Int.reduceEq, Int.reduceLT, Int.reduceLE, reduceCtorEq, Nat.reduceMul, Nat.reduceLeDiff, S_api_Token.enc]
              repeat (with_reducible refine And.intro (by first | omega | assumption) ?_)
              exact hN89 (decide ((IntKind.wrap .u64 (Int.tdiv (IntKind.wrap .u64 (18446744073709551615 - (IntKind.wrap .u64 r83))) x4_16)) < x5_56)) hq
        · simp only [RC, retQ, ↓reduceIte, Bool.false_eq_true]
          exact (hX _ hv).2
      · replace hq := (R.post_if hq).2 hc75
        refine condK_f (congrArg V.bool (decide_eq_false hc75)) ?_
        rw [wp_exit]
        try simp only [↓reduceIte, Nat.reduceEqDiff, reduceCtorEq, if_false, if_true, eq_self, Nat.succ_ne_self, RC]
        replace hq := hK73 _ hq
        try dsimp only at hq
        refine Wk.le (EnvLe.cons (.refl _) (EnvLe.cons (.refl _) (EnvLe.cons (.refl _) (EnvLe.cons (.refl _) (EnvLe.cons (.refl _) (EnvLe.cons (.refl _) (EnvLe.cons (.refl _) (EnvLe.cons (.refl _) (EnvLe.cons (.refl _) (EnvLe.cons (.top _) (EnvLe.cons (.top _) (EnvLe.cons (.top _) (EnvLe.cons (.top _) (EnvLe.cons (.refl _) EnvLe.nil)))))))))))))) ?_
        try simp only [RC]
        exact hN55 (_, _, x5_56, _, _, _, _, _, _, _, _, _) hq
  · rw [wp_block]
    obtain ⟨K105, hK106, hq⟩ := R.post_cut hq
    refine seq_gen (acall_mono hp) (σ := Bool) (fun s => [(0, .str x0), (2, .int .u64 0), (3, .bool false), (4, .int .u64 10), (5, .top), (7, .top), (8, .top), (9, .bool s), (26, .top), (38, .top), (39, .top), (40, .top), (41, .top), (57, .top)]) (fun s => h) (fun s => K105 s) (fun x9m104 hq => ?_) (fun N hN107 => ?_)
    · replace hq := hK106 _ hq
      try dsimp only at hq ⊢
      rw [wp_cond]
      simp only [RC, RL, RM, ↓evs_eq, loadN, sliceOp, cut, upon_each, buildOk, lookup, lookV, update, elemOf, Option.isSome_map, unOp, wanted, aop, tkB, neD, Env.get, Env.put, Env.keep, putD, dstOk, ev, constV, nilSlice, V.demote, V.toOwn, V.cells, ty, R1.res, binOp, isShift, binOpT, isC, intOp, strOp, shiftOp, byteV, index, indexAddr, slice, bounds, hiB, loB, withB, maxV, minV, evs, pickV, lenV, builtin, initEnv, convert, K.isU8, strOf, load, store, fieldOf, append, appT, fltOp, cpxV, realV, imagV, toInt, room, fill, placeOf, splice, repl, chunks, Ty.val, Ty.agg, V.plain, H.row, H.ety, AObj.row, Nat.reduceAdd, ↓reduceIte, Nat.reduceEqDiff, Nat.reduceBEq, Nat.reduceBNe, Nat.reduceLT, Int.reduceToNat, Int.reduceEq, Int.reduceLT, Int.reduceLE, reduceCtorEq, Nat.reduceMul, Nat.reduceLeDiff, S_api_Token.enc]
      by_cases hc113 : x9m104 = true
      · replace hq := (R.post_if hq).1 hc113
        refine condK_t (congrArg V.bool (hc113)) ?_
        refine wp_draw (acall_mono hp) (by kernel_rfl) (by rfl) ?_
        obtain ⟨g115, hq⟩ := R.guard hq
        simp only [RC, RL, RM, ↓evs_eq, loadN, sliceOp, cut, upon_each, buildOk, lookup, lookV, update, elemOf, Option.isSome_map, unOp, wanted, aop, tkB, neD, Env.get, Env.put, Env.keep, putD, dstOk, ev, constV, nilSlice, V.demote, V.toOwn, V.cells, ty, R1.res, binOp, isShift, binOpT, isC, intOp, strOp, shiftOp, byteV, index, indexAddr, slice, bounds, hiB, loB, withB, maxV, minV, evs, pickV, lenV, builtin, initEnv, convert, K.isU8, strOf, load, store, fieldOf, append, appT, fltOp, cpxV, realV, imagV, toInt, room, fill, placeOf, splice, repl, chunks, Ty.val, Ty.agg, V.plain, H.row, H.ety, AObj.row, Nat.reduceAdd, ↓reduceIte, Nat.reduceEqDiff, Nat.reduceBEq, Nat.reduceBNe, Nat.reduceLT, Int.reduceToNat, Int.reduceEq, Int.reduceLT, Int.reduceLE, reduceCtorEq, Nat.reduceMul, Nat.reduceLeDiff, S_api_Token.enc]
        repeat (with_reducible refine And.intro (by first | omega | assumption) ?_)
        refine Wk.le (EnvLe.cons (.refl _) (EnvLe.cons (.refl _) (EnvLe.cons (.refl _) (EnvLe.cons (.refl _) (EnvLe.cons (.refl _) (EnvLe.cons (.refl _) (EnvLe.cons (.refl _) (EnvLe.cons (.top _) (EnvLe.cons (.refl _) (EnvLe.cons (.refl _) (EnvLe.cons (.refl _) (EnvLe.cons (.refl _) (EnvLe.cons (.refl _) (EnvLe.cons (.refl _) EnvLe.nil)))))))))))))) ?_
        try simp only [RC]
        refine Wk.same ?_
        try simp only [RC]
        exact hN98 ((List.drop 2 x0), 16, _, _) hq
      · replace hq := (R.post_if hq).2 hc113
        replace hc113 := eq_false_of_ne_true hc113
        refine condK_f (congrArg V.bool (hc113)) ?_
        obtain ⟨K119, hK120, hq⟩ := R.post_cut hq
        refine seq_gen (acall_mono hp) (σ := Bool) (fun s => [(0, .str x0), (2, .int .u64 0), (3, .bool false), (4, .int .u64 10), (5, .top), (7, .top), (8, .top), (9, .bool x9m104), (26, .bool s), (38, .top), (39, .top), (40, .top), (41, .top), (57, .top)]) (fun s => h) (fun s => K119 s) (fun x26m118 hq => ?_) (fun N hN121 => ?_)
        · replace hq := hK120 _ hq
          try dsimp only at hq ⊢
          rw [wp_cond]
          simp only [RC, RL, RM, ↓evs_eq, loadN, sliceOp, cut, upon_each, buildOk, lookup, lookV, update, elemOf, Option.isSome_map, unOp, wanted, aop, tkB, neD, Env.get, Env.put, Env.keep, putD, dstOk, ev, constV, nilSlice, V.demote, V.toOwn, V.cells, ty, R1.res, binOp, isShift, binOpT, isC, intOp, strOp, shiftOp, byteV, index, indexAddr, slice, bounds, hiB, loB, withB, maxV, minV, evs, pickV, lenV, builtin, initEnv, convert, K.isU8, strOf, load, store, fieldOf, append, appT, fltOp, cpxV, realV, imagV, toInt, room, fill, placeOf, splice, repl, chunks, Ty.val, Ty.agg, V.plain, H.row, H.ety, AObj.row, Nat.reduceAdd, ↓reduceIte, Nat.reduceEqDiff, Nat.reduceBEq, Nat.reduceBNe, Nat.reduceLT, Int.reduceToNat, Int.reduceEq, Int.reduceLT, Int.reduceLE, reduceCtorEq, Nat.reduceMul, Nat.reduceLeDiff, S_api_Token.enc]
          by_cases hc124 : x26m118 = true
          · replace hq := (R.post_if hq).1 hc124
            refine condK_t (congrArg V.bool (hc124)) ?_
            refine wp_draw (acall_mono hp) (by kernel_rfl) (by rfl) ?_
            obtain ⟨g126, hq⟩ := R.guard hq
            simp only [RC, RL, RM, ↓evs_eq, loadN, sliceOp, cut, upon_each, buildOk, lookup, lookV, update, elemOf, Option.isSome_map, unOp, wanted, aop, tkB, neD, Env.get, Env.put, Env.keep, putD, dstOk, ev, constV, nilSlice, V.demote, V.toOwn, V.cells, ty, R1.res, binOp, isShift, binOpT, isC, intOp, strOp, shiftOp, byteV, index, indexAddr, slice, bounds, hiB, loB, withB, maxV, minV, evs, pickV, lenV, builtin, initEnv, convert, K.isU8, strOf, load, store, fieldOf, append, appT, fltOp, cpxV, realV, imagV, toInt, room, fill, placeOf, splice, repl, chunks, Ty.val, Ty.agg, V.plain, H.row, H.ety, AObj.row, Nat.reduceAdd, ↓reduceIte, Nat.reduceEqDiff, Nat.reduceBEq, Nat.reduceBNe, Nat.reduceLT, Int.reduceToNat, Int.reduceEq, Int.reduceLT, Int.reduceLE, reduceCtorEq, Nat.reduceMul, Nat.reduceLeDiff, S_api_Token.enc]
            repeat (with_reducible refine And.intro (by first | omega | assumption) ?_)
            refine Wk.le (EnvLe.cons (.refl _) (EnvLe.cons (.refl _) (EnvLe.cons (.refl _) (EnvLe.cons (.refl _) (EnvLe.cons (.refl _) (EnvLe.cons (.refl _) (EnvLe.cons (.refl _) (EnvLe.cons (.top _) (EnvLe.cons (.top _) (EnvLe.cons (.refl _) (EnvLe.cons (.refl _) (EnvLe.cons (.refl _) (EnvLe.cons (.refl _) (EnvLe.cons (.refl _) EnvLe.nil)))))))))))))) ?_
            try simp only [RC]
            refine Wk.same ?_
            try simp only [RC]
            refine Wk.same ?_
            try simp only [RC]
            exact hN98 ((List.drop 1 x0), 8, _, _) hq
          · replace hq := (R.post_if hq).2 hc124
            replace hc124 := eq_false_of_ne_true hc124
            refine condK_f (congrArg V.bool (hc124)) ?_
            try simp only [wp_skip, RC]
            refine Wk.le (EnvLe.cons (.refl _) (EnvLe.cons (.refl _) (EnvLe.cons (.refl _) (EnvLe.cons (.refl _) (EnvLe.cons (.refl _) (EnvLe.cons (.refl _) (EnvLe.cons (.refl _) (EnvLe.cons (.top _) (EnvLe.cons (.top _) (EnvLe.cons (.refl _) (EnvLe.cons (.refl _) (EnvLe.cons (.refl _) (EnvLe.cons (.refl _) (EnvLe.cons (.refl _) EnvLe.nil)))))))))))))) ?_
            try simp only [RC]
            refine Wk.same ?_
            try simp only [RC]
            refine Wk.same ?_
            try simp only [RC]
            exact hN98 (x0, 10, _, _) hq
        · rw [wp_region]
          simp only [RC, RL, RM, ↓evs_eq, loadN, sliceOp, cut, upon_each, buildOk, lookup, lookV, update, elemOf, Option.isSome_map, unOp, wanted, aop, tkB, neD, Env.get, Env.put, Env.keep, putD, dstOk, ev, constV, nilSlice, V.demote, V.toOwn, V.cells, ty, R1.res, binOp, isShift, binOpT, isC, intOp, strOp, shiftOp, byteV, index, indexAddr, slice, bounds, hiB, loB, withB, maxV, minV, evs, pickV, lenV, builtin, initEnv, convert, K.isU8, strOf, load, store, fieldOf, append, appT, fltOp, cpxV, realV, imagV, toInt, room, fill, placeOf, splice, repl, chunks, Ty.val, Ty.agg, V.plain, H.row, H.ety, AObj.row, Nat.reduceAdd, ↓reduceIte, Nat.reduceEqDiff, Nat.reduceBEq, Nat.reduceBNe, Nat.reduceLT, Int.reduceToNat, Int.reduceEq, Int.reduceLT, Int.reduceLE, reduceCtorEq, Nat.reduceMul, Nat.reduceLeDiff, S_api_Token.enc]
          by_cases hc122 : (1 : Int) < (List.length x0 : Int)
          · replace hq := (R.post_if hq).1 hc122
            obtain ⟨g123, hq⟩ := R.guard hq
            simp only [decide_eq_true hc122, RC, RL, RM, ↓evs_eq, loadN, sliceOp, cut, upon_each, buildOk, lookup, lookV, update, elemOf, Option.isSome_map, unOp, wanted, aop, tkB, neD, Env.get, Env.put, Env.keep, putD, dstOk, ev, constV, nilSlice, V.demote, V.toOwn, V.cells, ty, R1.res, binOp, isShift, binOpT, isC, intOp, strOp, shiftOp, byteV, index, indexAddr, slice, bounds, hiB, loB, withB, maxV, minV, evs, pickV, lenV, builtin, initEnv, convert, K.isU8, strOf, load, store, fieldOf, append, appT, fltOp, cpxV, realV, imagV, toInt, room, fill, placeOf, splice, repl, chunks, Ty.val, Ty.agg, V.plain, H.row, H.ety, AObj.row, Nat.reduceAdd, ↓reduceIte, Nat.reduceEqDiff, Nat.reduceBEq, Nat.reduceBNe, Nat.reduceLT, Int.reduceToNat, Int.reduceEq, Int.reduceLT, Int.reduceLE, reduceCtorEq, Nat.reduceMul, Nat.reduceLeDiff, S_api_Token.enc]
            repeat (with_reducible refine And.intro (by first | omega | assumption) ?_)
            exact hN121 (decide (((List.getD x0 0 0).toNat : Int) = 48)) hq
          · replace hq := (R.post_if hq).2 hc122
            simp only [decide_eq_false hc122, RC, RL, RM, ↓evs_eq, loadN, sliceOp, cut, upon_each, buildOk, lookup, lookV, update, elemOf, Option.isSome_map, unOp, wanted, aop, tkB, neD, Env.get, Env.put, Env.keep, putD, dstOk, ev, constV, nilSlice, V.demote, V.toOwn, V.cells, ty, R1.res, binOp, isShift, binOpT, isC, intOp, strOp, shiftOp, byteV, index, indexAddr, slice, bounds, hiB, loB, withB, maxV, minV, evs, pickV, lenV, builtin, initEnv, convert, K.isU8, strOf, load, store, fieldOf, append, appT, fltOp, cpxV, realV, imagV, toInt, room, fill, placeOf, splice, repl, chunks, Ty.val, Ty.agg, V.plain, H.row, H.ety, AObj.row, Nat.reduceAdd, ↓reduceIte, Nat.reduceEqDiff, Nat.reduceBEq, Nat.reduceBNe, Nat.reduceLT, Int.reduceToNat, Int.reduceEq, Int.reduceLT, Int.reduceLE, reduceCtorEq, Nat.reduceMul, Nat.reduceLeDiff, S_api_Token.enc]
            exact hN121 false hq
    · rw [wp_region]
      simp only [RC, RL, RM, ↓evs_eq, loadN, sliceOp, cut, upon_each, buildOk, lookup, lookV, update, elemOf, Option.isSome_map, unOp, wanted, aop, tkB, neD, Env.get, Env.put, Env.keep, putD, dstOk, ev, constV, nilSlice, V.demote, V.toOwn, V.cells, ty, R1.res, binOp, isShift, binOpT, isC, intOp, strOp, shiftOp, byteV, index, indexAddr, slice, bounds, hiB, loB, withB, maxV, minV, evs, pickV, lenV, builtin, initEnv, convert, K.isU8, strOf, load, store, fieldOf, append, appT, fltOp, cpxV, realV, imagV, toInt, room, fill, placeOf, splice, repl, chunks, Ty.val, Ty.agg, V.plain, H.row, H.ety, AObj.row, Nat.reduceAdd, ↓reduceIte, Nat.reduceEqDiff, Nat.reduceBEq, Nat.reduceBNe, Nat.reduceLT, Int.reduceToNat, Int.reduceEq, Int.reduceLT, Int.reduceLE, reduceCtorEq, Nat.reduceMul, Nat.reduceLeDiff, S_api_Token.enc]
      by_cases hc108 : (2 : Int) < (List.length x0 : Int)
      · replace hq := (R.post_if hq).1 hc108
        obtain ⟨g109, hq⟩ := R.guard hq
        simp only [decide_eq_true hc108, RC, RL, RM, ↓evs_eq, loadN, sliceOp, cut, upon_each, buildOk, lookup, lookV, update, elemOf, Option.isSome_map, unOp, wanted, aop, tkB, neD, Env.get, Env.put, Env.keep, putD, dstOk, ev, constV, nilSlice, V.demote, V.toOwn, V.cells, ty, R1.res, binOp, isShift, binOpT, isC, intOp, strOp, shiftOp, byteV, index, indexAddr, slice, bounds, hiB, loB, withB, maxV, minV, evs, pickV, lenV, builtin, initEnv, convert, K.isU8, strOf, load, store, fieldOf, append, appT, fltOp, cpxV, realV, imagV, toInt, room, fill, placeOf, splice, repl, chunks, Ty.val, Ty.agg, V.plain, H.row, H.ety, AObj.row, Nat.reduceAdd, ↓reduceIte, Nat.reduceEqDiff, Nat.reduceBEq, Nat.reduceBNe, Nat.reduceLT, Int.reduceToNat, Int.reduceEq, Int.reduceLT, Int.reduceLE, reduceCtorEq, Nat.reduceMul, Nat.reduceLeDiff, S_api_Token.enc]
        repeat (with_reducible refine And.intro (by first | omega | assumption) ?_)
        by_cases hc110 : ((List.getD x0 0 0).toNat : Int) = 48
        · replace hq := (R.post_if hq).1 hc110
          obtain ⟨g111, hq⟩ := R.guard hq
          have e112 := u8_fix (n := (bitsV .or .u8 ((List.getD x0 1 0).toNat : Int) 32)) (bits_u8 _ _ _)
          simp only [e112, decide_eq_true hc110, RC, RL, RM, ↓evs_eq, loadN, sliceOp, cut, upon_each, buildOk, lookup, lookV, update, elemOf, Option.isSome_map, unOp, wanted, aop, tkB, neD, Env.get, Env.put, Env.keep, putD, dstOk, ev, constV, nilSlice, V.demote, V.toOwn, V.cells, ty, R1.res, binOp, isShift, binOpT, isC, intOp, strOp, shiftOp, byteV, index, indexAddr, slice, bounds, hiB, loB, withB, maxV, minV, evs, pickV, lenV, builtin, initEnv, convert, K.isU8, strOf, load, store, fieldOf, append, appT, fltOp, cpxV, realV, imagV, toInt, room, fill, placeOf, splice, repl, chunks, Ty.val, Ty.agg, V.plain, H.row, H.ety, AObj.row, Nat.reduceAdd, ↓reduceIte, Nat.reduceEqDiff, Nat.reduceBEq, Nat.reduceBNe, Nat.reduceLT, Int.reduceToNat, Int.reduceEq, Int.reduceLT, Int.reduceLE, reduceCtorEq, Nat.reduceMul, Nat.reduceLeDiff, S_api_Token.enc]
          repeat (with_reducible refine And.intro (by first | omega | assumption) ?_)
          exact hN107 (decide (((u8 (bitsV .or .u8 ((List.getD x0 1 0).toNat : Int) 32)).toNat : Int) = 120)) hq
        · replace hq := (R.post_if hq).2 hc110
          simp only [decide_eq_false hc110, RC, RL, RM, ↓evs_eq, loadN, sliceOp, cut, upon_each, buildOk, lookup, lookV, update, elemOf, Option.isSome_map, unOp, wanted, aop, tkB, neD, Env.get, Env.put, Env.keep, putD, dstOk, ev, constV, nilSlice, V.demote, V.toOwn, V.cells, ty, R1.res, binOp, isShift, binOpT, isC, intOp, strOp, shiftOp, byteV, index, indexAddr, slice, bounds, hiB, loB, withB, maxV, minV, evs, pickV, lenV, builtin, initEnv, convert, K.isU8, strOf, load, store, fieldOf, append, appT, fltOp, cpxV, realV, imagV, toInt, room, fill, placeOf, splice, repl, chunks, Ty.val, Ty.agg, V.plain, H.row, H.ety, AObj.row, Nat.reduceAdd, ↓reduceIte, Nat.reduceEqDiff, Nat.reduceBEq, Nat.reduceBNe, Nat.reduceLT, Int.reduceToNat, Int.reduceEq, Int.reduceLT, Int.reduceLE, reduceCtorEq, Nat.reduceMul, Nat.reduceLeDiff, S_api_Token.enc]
          exact hN107 false hq
      · replace hq := (R.post_if hq).2 hc108
        simp only [decide_eq_false hc108, RC, RL, RM, ↓evs_eq, loadN, sliceOp, cut, upon_each, buildOk, lookup, lookV, update, elemOf, Option.isSome_map, unOp, wanted, aop, tkB, neD, Env.get, Env.put, Env.keep, putD, dstOk, ev, constV, nilSlice, V.demote, V.toOwn, V.cells, ty, R1.res, binOp, isShift, binOpT, isC, intOp, strOp, shiftOp, byteV, index, indexAddr, slice, bounds, hiB, loB, withB, maxV, minV, evs, pickV, lenV, builtin, initEnv, convert, K.isU8, strOf, load, store, fieldOf, append, appT, fltOp, cpxV, realV, imagV, toInt, room, fill, placeOf, splice, repl, chunks, Ty.val, Ty.agg, V.plain, H.row, H.ety, AObj.row, Nat.reduceAdd, ↓reduceIte, Nat.reduceEqDiff, Nat.reduceBEq, Nat.reduceBNe, Nat.reduceLT, Int.reduceToNat, Int.reduceEq, Int.reduceLT, Int.reduceLE, reduceCtorEq, Nat.reduceMul, Nat.reduceLeDiff, S_api_Token.enc]
        exact hN107 false hq

def quote_digits_j0 (x8_25 : Int) (x9_25 : Int) : R (Int × Int) :=
  R.ok (x8_25, x9_25)
def quote_digits_l1 (x0 : List UInt8) (x1 : Int) (x2 : Int) : Nat → Int → Int → R (Int × Int)
  | 0, _, _ => R.stuck
  | k + 1, x8_27, x9_27 => (if x9_27 < (if x2 < (List.length x0 : Int) then x2 else (List.length x0 : Int)) then (if 0 ≤ x9_27 ∧ x9_27 < (List.length x0 : Int) then ((quote_worth (List.getD x0 (Int.toNat x9_27) 0)).bind fun r57 => R.ok (decide (r57 < x1))) else R.stuck) else (R.ok false)).bind fun x23m51 => if x23m51 = true then (if 0 ≤ x9_27 ∧ x9_27 < (List.length x0 : Int) then ((quote_worth (List.getD x0 (Int.toNat x9_27) 0)).bind fun r66 => quote_digits_l1 x0 x1 x2 k (IntKind.wrap .i64 ((IntKind.wrap .i64 (x8_27 * x1)) + r66)) (IntKind.wrap .i64 (x9_27 + 1))) else R.stuck) else (R.ok (x8_27, x9_27))
def quote_digits (x0 : List UInt8) (x1 : Int) (x2 : Int) : R (Int × Int) :=
  (quote_digits_l1 x0 x1 x2 Many 0 0).bind fun (x8p70, x9p70) => quote_digits_j0 x8p70 x9p70
theorem quote_digits_call {h : H} {x0 : List UInt8} {x1 : Int} {x2 : Int} {Q : Out → H → Prop} {KK : (Int × Int) → Prop} {X : V → Prop} (hq : (quote_digits x0 x1 x2).post KK X) (hK : ∀ r, KK r → Q (.ret (.tup [.int .i64 r.1, .int .i64 r.2])) h) (hX : ∀ v, X v → V.Cl 0 v ∧ Q (.panic v) h) : CA qprim 49 [.str x0, .int .i64 x1, .int .i64 x2] h Q := by
  refine acalln hp Try.func49 rfl (by kernel_rfl) (n := 36) rfl (rs := [.tmp 6, .tmp 7]) rfl [0, 1, 2, 6, 7, 8, 9, 23] [] false (by simp) ?_
  unfold quote_digits at hq
  simp only [initEnv, List.map_cons, List.map_nil, List.getD_cons_zero, List.getD_cons_succ, List.getD_nil, V.demote]
  rw [wp_seq]
  rw [wp_region]
  simp only [RC, RL, RM, ↓evs_eq, loadN, sliceOp, cut, upon_each, buildOk, lookup, lookV, update, elemOf, Option.isSome_map, unOp, wanted, aop, tkB, neD, Env.get, Env.put, Env.keep, putD, dstOk, ev, constV, nilSlice, V.demote, V.toOwn, V.cells, ty, R1.res, binOp, isShift, binOpT, isC, intOp, strOp, shiftOp, byteV, index, indexAddr, slice, bounds, hiB, loB, withB, maxV, minV, evs, pickV, lenV, builtin, initEnv, convert, K.isU8, strOf, load, store, fieldOf, append, appT, fltOp, cpxV, realV, imagV, toInt, room, fill, placeOf, splice, repl, chunks, Ty.val, Ty.agg, V.plain, H.row, H.ety, AObj.row, Nat.reduceAdd, ↓reduceIte, Nat.reduceEqDiff, Nat.reduceBEq, Nat.reduceBNe, Nat.reduceLT, Int.reduceToNat, Int.reduceEq, Int.reduceLT, Int.reduceLE, reduceCtorEq, Nat.reduceMul, Nat.reduceLeDiff, S_api_Token.enc]
  rw [wp_seq]
  rw [wp_region]
  simp only [RC, RL, RM, ↓evs_eq, loadN, sliceOp, cut, upon_each, buildOk, lookup, lookV, update, elemOf, Option.isSome_map, unOp, wanted, aop, tkB, neD, Env.get, Env.put, Env.keep, putD, dstOk, ev, constV, nilSlice, V.demote, V.toOwn, V.cells, ty, R1.res, binOp, isShift, binOpT, isC, intOp, strOp, shiftOp, byteV, index, indexAddr, slice, bounds, hiB, loB, withB, maxV, minV, evs, pickV, lenV, builtin, initEnv, convert, K.isU8, strOf, load, store, fieldOf, append, appT, fltOp, cpxV, realV, imagV, toInt, room, fill, placeOf, splice, repl, chunks, Ty.val, Ty.agg, V.plain, H.row, H.ety, AObj.row, Nat.reduceAdd, ↓reduceIte, Nat.reduceEqDiff, Nat.reduceBEq, Nat.reduceBNe, Nat.reduceLT, Int.reduceToNat, Int.reduceEq, Int.reduceLT, Int.reduceLE, reduceCtorEq, Nat.reduceMul, Nat.reduceLeDiff, S_api_Token.enc]
  refine seq_gen (acall_mono hp) (σ := Int × Int × V) (fun s => [(0, .str x0), (1, .int .i64 x1), (2, .int .i64 x2), (6, .int .i64 0), (7, .int .i64 0), (8, .int .i64 s.1), (9, .int .i64 s.2.1), (23, s.2.2)]) (fun s => h) (fun s => (quote_digits_j0 s.1 s.2.1).post KK X) (fun s hq => ?_) (fun N hN26 => ?_)
  · obtain ⟨x8_25, x9_25, y23_25⟩ := s
    try dsimp only at hq ⊢
    unfold quote_digits_j0 at hq
    rw [wp_seq]
    rw [wp_region]
    simp only [RC, RL, RM, ↓evs_eq, loadN, sliceOp, cut, upon_each, buildOk, lookup, lookV, update, elemOf, Option.isSome_map, unOp, wanted, aop, tkB, neD, Env.get, Env.put, Env.keep, putD, dstOk, ev, constV, nilSlice, V.demote, V.toOwn, V.cells, ty, R1.res, binOp, isShift, binOpT, isC, intOp, strOp, shiftOp, byteV, index, indexAddr, slice, bounds, hiB, loB, withB, maxV, minV, evs, pickV, lenV, builtin, initEnv, convert, K.isU8, strOf, load, store, fieldOf, append, appT, fltOp, cpxV, realV, imagV, toInt, room, fill, placeOf, splice, repl, chunks, Ty.val, Ty.agg, V.plain, H.row, H.ety, AObj.row, Nat.reduceAdd, ↓reduceIte, Nat.reduceEqDiff, Nat.reduceBEq, Nat.reduceBNe, Nat.reduceLT, Int.reduceToNat, Int.reduceEq, Int.reduceLT, Int.reduceLE, reduceCtorEq, Nat.reduceMul, Nat.reduceLeDiff, S_api_Token.enc]
    rw [wp_ret]
    simp only [retQ, results, resultAll, resultOne, Nat.zero_add, RC, RL, RM, ↓evs_eq, loadN, sliceOp, cut, upon_each, buildOk, lookup, lookV, update, elemOf, Option.isSome_map, unOp, wanted, aop, tkB, neD, Env.get, Env.put, Env.keep, putD, dstOk, ev, constV, nilSlice, V.demote, V.toOwn, V.cells, ty, R1.res, binOp, isShift, binOpT, isC, intOp, strOp, shiftOp, byteV, index, indexAddr, slice, bounds, hiB, loB, withB, maxV, minV, evs, pickV, lenV, builtin, initEnv, convert, K.isU8, strOf, load, store, fieldOf, append, appT, fltOp, cpxV, realV, imagV, toInt, room, fill, placeOf, splice, repl, chunks, Ty.val, Ty.agg, V.plain, H.row, H.ety, AObj.row, Nat.reduceAdd, ↓reduceIte, Nat.reduceEqDiff, Nat.reduceBEq, Nat.reduceBNe, Nat.reduceLT, Int.reduceToNat, Int.reduceEq, Int.reduceLT, Int.reduceLE, reduceCtorEq, Nat.reduceMul, Nat.reduceLeDiff, S_api_Token.enc]
    refine ⟨_, (.refl _), ?_⟩
    exact hK _ hq
  · rw [wp_block]
    refine loop_in ?_
    refine Wk.same ?_
    obtain ⟨K43, hK44, hq⟩ := R.post_cut hq
    refine loop_gen (acall_mono hp) (σ := Int × Int × V) (fun s => [(0, .str x0), (1, .int .i64 x1), (2, .int .i64 x2), (6, .int .i64 0), (7, .int .i64 0), (8, .int .i64 s.1), (9, .int .i64 s.2.1), (23, s.2.2)]) (fun s => h) (fun k s => (quote_digits_l1 x0 x1 x2 k s.1 s.2.1).post K43 X) (fun s hs => hs) (fun k69 s hq N hN45 => ?_) _ (0, 0, _) hq
    obtain ⟨x8_27, x9_27, y23_27⟩ := s
    try dsimp only at hq ⊢
    rw [quote_digits_l1] at hq
    rw [wp_seq]
    obtain ⟨K52, hK53, hq⟩ := R.post_cut hq
    refine seq_gen (acall_mono hp) (σ := Bool) (fun s => [(0, .str x0), (1, .int .i64 x1), (2, .int .i64 x2), (6, .int .i64 0), (7, .int .i64 0), (8, .int .i64 x8_27), (9, .int .i64 x9_27), (23, .bool s)]) (fun s => h) (fun s => K52 s) (fun x23m51 hq => ?_) (fun N hN54 => ?_)
    · replace hq := hK53 _ hq
      try dsimp only at hq ⊢
      rw [wp_cond]
      simp only [RC, RL, RM, ↓evs_eq, loadN, sliceOp, cut, upon_each, buildOk, lookup, lookV, update, elemOf, Option.isSome_map, unOp, wanted, aop, tkB, neD, Env.get, Env.put, Env.keep, putD, dstOk, ev, constV, nilSlice, V.demote, V.toOwn, V.cells, ty, R1.res, binOp, isShift, binOpT, isC, intOp, strOp, shiftOp, byteV, index, indexAddr, slice, bounds, hiB, loB, withB, maxV, minV, evs, pickV, lenV, builtin, initEnv, convert, K.isU8, strOf, load, store, fieldOf, append, appT, fltOp, cpxV, realV, imagV, toInt, room, fill, placeOf, splice, repl, chunks, Ty.val, Ty.agg, V.plain, H.row, H.ety, AObj.row, Nat.reduceAdd, ↓reduceIte, Nat.reduceEqDiff, Nat.reduceBEq, Nat.reduceBNe, Nat.reduceLT, Int.reduceToNat, Int.reduceEq, Int.reduceLT, Int.reduceLE, reduceCtorEq, Nat.reduceMul, Nat.reduceLeDiff, S_api_Token.enc]
      by_cases hc60 : x23m51 = true
      · replace hq := (R.post_if hq).1 hc60
        refine condK_t (congrArg V.bool (hc60)) ?_
        try simp only [wp_skip, RC]
        refine Wk.same ?_
        try simp only [RC]
        rw [wp_block]
        rw [wp_seq]
        rw [wp_region]
        obtain ⟨g65, hq⟩ := R.guard hq
        simp only [RC, RL, RM, ↓evs_eq, loadN, sliceOp, cut, upon_each, buildOk, lookup, lookV, update, elemOf, Option.isSome_map, unOp, wanted, aop, tkB, neD, Env.get, Env.put, Env.keep, putD, dstOk, ev, constV, nilSlice, V.demote, V.toOwn, V.cells, ty, R1.res, binOp, isShift, binOpT, isC, intOp, strOp, shiftOp, byteV, index, indexAddr, slice, bounds, hiB, loB, withB, maxV, minV, evs, pickV, lenV, builtin, initEnv, convert, K.isU8, strOf, load, store, fieldOf, append, appT, fltOp, cpxV, realV, imagV, toInt, room, fill, placeOf, splice, repl, chunks, Ty.val, Ty.agg, V.plain, H.row, H.ety, AObj.row, Nat.reduceAdd, ↓reduceIte, Nat.reduceEqDiff, Nat.reduceBEq, Nat.reduceBNe, Nat.reduceLT, Int.reduceToNat, Int.reduceEq, Int.reduceLT, Int.reduceLE, reduceCtorEq, Nat.reduceMul, Nat.reduceLeDiff, S_api_Token.enc]
        repeat (with_reducible refine And.intro (by first | omega | assumption) ?_)
        obtain ⟨K67, hK68, hq⟩ := R.post_cut hq
        refine quote_worth_call (x0 := (List.getD x0 (Int.toNat x9_27) 0)) hq (fun r66 hq => ?_) (fun v hv => ⟨(hX v hv).1, ?_⟩)
        · replace hq := hK68 _ hq
          simp only [RC, RL, RM, ↓evs_eq, loadN, sliceOp, cut, upon_each, buildOk, lookup, lookV, update, elemOf, Option.isSome_map, unOp, wanted, aop, tkB, neD, Env.get, Env.put, Env.keep, putD, dstOk, ev, constV, nilSlice, V.demote, V.toOwn, V.cells, ty, R1.res, binOp, isShift, binOpT, isC, intOp, strOp, shiftOp, byteV, index, indexAddr, slice, bounds, hiB, loB, withB, maxV, minV, evs, pickV, lenV, builtin, initEnv, convert, K.isU8, strOf, load, store, fieldOf, append, appT, fltOp, cpxV, realV, imagV, toInt, room, fill, placeOf, splice, repl, chunks, Ty.val, Ty.agg, V.plain, H.row, H.ety, AObj.row, Nat.reduceAdd, ↓reduceIte, Nat.reduceEqDiff, Nat.reduceBEq, Nat.reduceBNe, Nat.reduceLT, Int.reduceToNat, Int.reduceEq, Int.reduceLT, Int.reduceLE, reduceCtorEq, Nat.reduceMul, Nat.reduceLeDiff, S_api_Token.enc]
          rw [wp_region]
          simp only [RC, RL, RM, ↓evs_eq, loadN, sliceOp, cut, upon_each, buildOk, lookup, lookV, update, elemOf, Option.isSome_map, unOp, wanted, aop, tkB, neD, Env.get, Env.put, Env.keep, putD, dstOk, ev, constV, nilSlice, V.demote, V.toOwn, V.cells, ty, R1.res, binOp, isShift, binOpT, isC, intOp, strOp, shiftOp, byteV, index, indexAddr, slice, bounds, hiB, loB, withB, maxV, minV, evs, pickV, lenV, builtin, initEnv, convert, K.isU8, strOf, load, store, fieldOf, append, appT, fltOp, cpxV, realV, imagV, toInt, room, fill, placeOf, splice, repl, chunks, Ty.val, Ty.agg, V.plain, H.row, H.ety, AObj.row, Nat.reduceAdd, ↓reduceIte, Nat.reduceEqDiff, Nat.reduceBEq, Nat.reduceBNe, Nat.reduceLT, Int.reduceToNat, Int.reduceEq, Int.reduceLT, Int.reduceLE, reduceCtorEq, Nat.reduceMul, Nat.reduceLeDiff, S_api_Token.enc]
          refine Wk.le (EnvLe.cons (.refl _) (EnvLe.cons (.refl _) (EnvLe.cons (.refl _) (EnvLe.cons (.refl _) (EnvLe.cons (.refl _) (EnvLe.cons (.refl _) (EnvLe.cons (.refl _) (EnvLe.cons (.top _) EnvLe.nil)))))))) ?_
          try simp only [RC]
          refine Wk.same ?_
          exact hN45 ((IntKind.wrap .i64 ((IntKind.wrap .i64 (x8_27 * x1)) + r66)), (IntKind.wrap .i64 (x9_27 + 1)), _) hq
        · simp only [RC, retQ, ↓reduceIte, Bool.false_eq_true]
          exact (hX _ hv).2
      · replace hq := (R.post_if hq).2 hc60
        replace hc60 := eq_false_of_ne_true hc60
        refine condK_f (congrArg V.bool (hc60)) ?_
        rw [wp_exit]
        try simp only [↓reduceIte, Nat.reduceEqDiff, reduceCtorEq, if_false, if_true, eq_self, Nat.succ_ne_self, RC]
        replace hq := hK44 _ hq
        try dsimp only at hq
        refine Wk.le (EnvLe.cons (.refl _) (EnvLe.cons (.refl _) (EnvLe.cons (.refl _) (EnvLe.cons (.refl _) (EnvLe.cons (.refl _) (EnvLe.cons (.refl _) (EnvLe.cons (.refl _) (EnvLe.cons (.top _) EnvLe.nil)))))))) ?_
        try simp only [RC]
        exact hN26 (x8_27, x9_27, _) hq
    · rw [wp_region]
      simp only [RC, RL, RM, ↓evs_eq, loadN, sliceOp, cut, upon_each, buildOk, lookup, lookV, update, elemOf, Option.isSome_map, unOp, wanted, aop, tkB, neD, Env.get, Env.put, Env.keep, putD, dstOk, ev, constV, nilSlice, V.demote, V.toOwn, V.cells, ty, R1.res, binOp, isShift, binOpT, isC, intOp, strOp, shiftOp, byteV, index, indexAddr, slice, bounds, hiB, loB, withB, maxV, minV, evs, pickV, lenV, builtin, initEnv, convert, K.isU8, strOf, load, store, fieldOf, append, appT, fltOp, cpxV, realV, imagV, toInt, room, fill, placeOf, splice, repl, chunks, Ty.val, Ty.agg, V.plain, H.row, H.ety, AObj.row, Nat.reduceAdd, ↓reduceIte, Nat.reduceEqDiff, Nat.reduceBEq, Nat.reduceBNe, Nat.reduceLT, Int.reduceToNat, Int.reduceEq, Int.reduceLT, Int.reduceLE, reduceCtorEq, Nat.reduceMul, Nat.reduceLeDiff, S_api_Token.enc]
      by_cases hc55 : x9_27 < (if x2 < (List.length x0 : Int) then x2 else (List.length x0 : Int))
      · replace hq := (R.post_if hq).1 hc55
        obtain ⟨g56, hq⟩ := R.guard hq
        simp only [decide_eq_true hc55, RC, RL, RM, ↓evs_eq, loadN, sliceOp, cut, upon_each, buildOk, lookup, lookV, update, elemOf, Option.isSome_map, unOp, wanted, aop, tkB, neD, Env.get, Env.put, Env.keep, putD, dstOk, ev, constV, nilSlice, V.demote, V.toOwn, V.cells, ty, R1.res, binOp, isShift, binOpT, isC, intOp, strOp, shiftOp, byteV, index, indexAddr, slice, bounds, hiB, loB, withB, maxV, minV, evs, pickV, lenV, builtin, initEnv, convert, K.isU8, strOf, load, store, fieldOf, append, appT, fltOp, cpxV, realV, imagV, toInt, room, fill, placeOf, splice, repl, chunks, Ty.val, Ty.agg, V.plain, H.row, H.ety, AObj.row, Nat.reduceAdd, ↓reduceIte, Nat.reduceEqDiff, Nat.reduceBEq, Nat.reduceBNe, Nat.reduceLT, Int.reduceToNat, Int.reduceEq, Int.reduceLT, Int.reduceLE, reduceCtorEq, Nat.reduceMul, Nat.reduceLeDiff, S_api_Token.enc]
        repeat (with_reducible refine And.intro (by first | omega | assumption) ?_)
        obtain ⟨K58, hK59, hq⟩ := R.post_cut hq
        refine quote_worth_call (x0 := (List.getD x0 (Int.toNat x9_27) 0)) hq (fun r57 hq => ?_) (fun v hv => ⟨(hX v hv).1, ?_⟩)
        · replace hq := hK59 _ hq
          simp only [RC, RL, RM, ↓evs_eq, loadN, sliceOp, cut, upon_each, buildOk, lookup, lookV, update, elemOf, Option.isSome_map, unOp, wanted, aop, tkB, neD, Env.get, Env.put, Env.keep, putD, dstOk, ev, constV, nilSlice, V.demote, V.toOwn, V.cells, ty, R1.res, binOp, isShift, binOpT, isC, intOp, strOp, shiftOp, byteV, index, indexAddr, slice, bounds, hiB, loB, withB, maxV, minV, evs, pickV, lenV, builtin, initEnv, convert, K.isU8, strOf, load, store, fieldOf, append, appT, fltOp, cpxV, realV, imagV, toInt, room, fill, placeOf, splice, repl, chunks, Ty.val, Ty.agg, V.plain, H.row, H.ety, AObj.row, Nat.reduceAdd, ↓reduceIte, Nat.reduceEqDiff, Nat.reduceBEq, Nat.reduceBNe, Nat.reduceLT, Int.reduceToNat, Int.reduceEq, Int.reduceLT, Int.reduceLE, reduceCtorEq, Nat.reduceMul, Nat.reduceLeDiff, S_api_Token.enc]
          exact hN54 (decide (r57 < x1)) hq
        · simp only [RC, retQ, ↓reduceIte, Bool.false_eq_true]
          exact (hX _ hv).2
      · replace hq := (R.post_if hq).2 hc55
        simp only [decide_eq_false hc55, RC, RL, RM, ↓evs_eq, loadN, sliceOp, cut, upon_each, buildOk, lookup, lookV, update, elemOf, Option.isSome_map, unOp, wanted, aop, tkB, neD, Env.get, Env.put, Env.keep, putD, dstOk, ev, constV, nilSlice, V.demote, V.toOwn, V.cells, ty, R1.res, binOp, isShift, binOpT, isC, intOp, strOp, shiftOp, byteV, index, indexAddr, slice, bounds, hiB, loB, withB, maxV, minV, evs, pickV, lenV, builtin, initEnv, convert, K.isU8, strOf, load, store, fieldOf, append, appT, fltOp, cpxV, realV, imagV, toInt, room, fill, placeOf, splice, repl, chunks, Ty.val, Ty.agg, V.plain, H.row, H.ety, AObj.row, Nat.reduceAdd, ↓reduceIte, Nat.reduceEqDiff, Nat.reduceBEq, Nat.reduceBNe, Nat.reduceLT, Int.reduceToNat, Int.reduceEq, Int.reduceLT, Int.reduceLE, reduceCtorEq, Nat.reduceMul, Nat.reduceLeDiff, S_api_Token.enc]
        exact hN54 false hq
end Go.Proofs.Ytblbbmlppmpmjaa.Pv
