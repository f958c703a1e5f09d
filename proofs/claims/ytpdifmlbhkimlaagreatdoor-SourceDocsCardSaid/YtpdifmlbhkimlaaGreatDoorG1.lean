/- Functions of the program, as plain Lean functions, and that the code comes to them: printed by gen.py. -/
import Derived.Test.YtpdifmlbhkimlaaGreatDoorG0
set_option linter.unusedVariables false
set_option linter.unusedSimpArgs false
set_option maxHeartbeats 4000000
set_option maxRecDepth 10000
namespace Go.Proofs.YtpdifmlbhkimlaaGreatDoor.Pv
open Go Go.Proofs

def slices_Equal_int_j0 : R (Bool) :=
  R.ok true
def slices_Equal_int_l1 (x0 : List Int) (x1 : List Int) : Nat → Int → R ((Unit) ⊕ (Bool))
  | 0, _ => R.stuck
  | k + 1, x13_28 => if x13_28 < (List.length x0 : Int) then (if 0 ≤ x13_28 ∧ x13_28 < (List.length x0 : Int) then (if 0 ≤ x13_28 ∧ x13_28 < (List.length x1 : Int) then (if (gt x0 x13_28) = (gt x1 x13_28) then (slices_Equal_int_l1 x0 x1 k (IntKind.wrap .i64 (x13_28 + 1))) else (R.ok (.inr false))) else R.stuck) else R.stuck) else (R.ok (.inl ()))
def slices_Equal_int (x0 : List Int) (x1 : List Int) : R (Bool) :=
  if (List.length x0 : Int) = (List.length x1 : Int) then ((slices_Equal_int_l1 x0 x1 Many 0).bind fun | (.inl _) => slices_Equal_int_j0 | (.inr rp54) => R.ok rp54) else (R.ok false)
theorem slices_Equal_int_call {h : H} {x0 : List Int} {x1 : List Int} {Q : Out → H → Prop} {KK : (Bool) → Prop} {X : V → Prop} (hq : (slices_Equal_int x0 x1).post KK X) (hK : ∀ r, KK r → Q (.ret (.bool r)) h) (hX : ∀ v, X v → V.Cl 0 v ∧ Q (.panic v) h) : CA qprim 9 [.sl 1 (List.map (V.int .i64) x0), .sl 1 (List.map (V.int .i64) x1)] h Q := by
  refine acalln hp Tryz.func9 rfl (by kernel_rfl) (n := 26) rfl (rs := [.tmp 4]) rfl [0, 1, 4, 5, 10, 12, 13, 14, 24] [] false (by simp) ?_
  unfold slices_Equal_int at hq
  simp only [initEnv, List.map_cons, List.map_nil, List.getD_cons_zero, List.getD_cons_succ, List.getD_nil, V.demote]
  rw [wp_seq]
  refine wp_region_i (by rfl) ?_
  simp only [RC, RL, RM, ↓evs_eq, loadN, V.slz, V.slz1, lnB, V.left, V.lenOf, slice3, sliceNil, Option.getD_none, Option.getD_some, sliceOp, cut, upon_each, nextM, entryOp, buildOk, lookup, lookV, update, elemOf, Option.isSome_map, unOp, wanted, aop, tkB, neD, Env.get, Env.put, Env.keep, putD, dstOk, ev, constV, nilSlice, V.demote, V.toOwn, V.cells, ty, R1.res, binOp, isShift, binOpT, isC, intOp, strOp, shiftOp, byteV, index, indexAddr, slice, bounds, hiB, loB, withB, maxV, minV, evs, pickV, lenV, builtin, initEnv, convert, K.isU8, strOf, load, store, fieldOf, append, appT, fltOp, cpxV, realV, imagV, toInt, rangeOp, nextOp, room, fill, placeOf, splice, repl, chunks, Ty.val, Ty.agg, V.plain, H.row, H.ety, AObj.row, Nat.reduceAdd, ↓reduceIte, Nat.reduceEqDiff, Nat.reduceBEq, Nat.reduceBNe, Nat.reduceLT, Int.reduceToNat, Int.reduceEq, Int.reduceLT, Int.reduceLE, reduceCtorEq, Nat.reduceMul, Nat.reduceLeDiff, S_api_Location.enc]
  rw [wp_seq]
  rw [wp_seq]
  refine wp_region_i (by rfl) ?_
  simp only [RC, RL, RM, ↓evs_eq, loadN, V.slz, V.slz1, lnB, V.left, V.lenOf, slice3, sliceNil, Option.getD_none, Option.getD_some, sliceOp, cut, upon_each, nextM, entryOp, buildOk, lookup, lookV, update, elemOf, Option.isSome_map, unOp, wanted, aop, tkB, neD, Env.get, Env.put, Env.keep, putD, dstOk, ev, constV, nilSlice, V.demote, V.toOwn, V.cells, ty, R1.res, binOp, isShift, binOpT, isC, intOp, strOp, shiftOp, byteV, index, indexAddr, slice, bounds, hiB, loB, withB, maxV, minV, evs, pickV, lenV, builtin, initEnv, convert, K.isU8, strOf, load, store, fieldOf, append, appT, fltOp, cpxV, realV, imagV, toInt, rangeOp, nextOp, room, fill, placeOf, splice, repl, chunks, Ty.val, Ty.agg, V.plain, H.row, H.ety, AObj.row, Nat.reduceAdd, ↓reduceIte, Nat.reduceEqDiff, Nat.reduceBEq, Nat.reduceBNe, Nat.reduceLT, Int.reduceToNat, Int.reduceEq, Int.reduceLT, Int.reduceLE, reduceCtorEq, Nat.reduceMul, Nat.reduceLeDiff, S_api_Location.enc]
  rw [wp_cond]
  simp only [RC, RL, RM, ↓evs_eq, loadN, V.slz, V.slz1, lnB, V.left, V.lenOf, slice3, sliceNil, Option.getD_none, Option.getD_some, sliceOp, cut, upon_each, nextM, entryOp, buildOk, lookup, lookV, update, elemOf, Option.isSome_map, unOp, wanted, aop, tkB, neD, Env.get, Env.put, Env.keep, putD, dstOk, ev, constV, nilSlice, V.demote, V.toOwn, V.cells, ty, R1.res, binOp, isShift, binOpT, isC, intOp, strOp, shiftOp, byteV, index, indexAddr, slice, bounds, hiB, loB, withB, maxV, minV, evs, pickV, lenV, builtin, initEnv, convert, K.isU8, strOf, load, store, fieldOf, append, appT, fltOp, cpxV, realV, imagV, toInt, rangeOp, nextOp, room, fill, placeOf, splice, repl, chunks, Ty.val, Ty.agg, V.plain, H.row, H.ety, AObj.row, Nat.reduceAdd, ↓reduceIte, Nat.reduceEqDiff, Nat.reduceBEq, Nat.reduceBNe, Nat.reduceLT, Int.reduceToNat, Int.reduceEq, Int.reduceLT, Int.reduceLE, reduceCtorEq, Nat.reduceMul, Nat.reduceLeDiff, S_api_Location.enc]
  by_cases hc2 : (List.length x0 : Int) = (List.length x1 : Int)
  · replace hq := (R.post_if hq).1 hc2
    refine condK_f (congrArg (fun b => V.bool (!b)) (decide_eq_true hc2)) ?_
    try simp only [wp_skip, RC]
    refine Wk.same ?_
    try simp only [RC]
    refine seq_gen (acall_mono hp) (σ := V × V × V × V × V × V) (fun s => [(0, .sl 1 (List.map (V.int .i64) x0)), (1, .sl 1 (List.map (V.int .i64) x1)), (4, s.1), (5, s.2.1), (10, .bool (!(decide ((List.length x0 : Int) = (List.length x1 : Int))))), (12, s.2.2.1), (13, s.2.2.2.1), (14, s.2.2.2.2.1), (24, s.2.2.2.2.2)]) (fun s => h) (fun s => (slices_Equal_int_j0).post KK X) (fun s hq => ?_) (fun N hN27 => ?_)
    · obtain ⟨y4_26, y5_26, y12_26, y13_26, y14_26, y24_26⟩ := s
      try dsimp only at hq ⊢
      unfold slices_Equal_int_j0 at hq
      rw [wp_seq]
      refine wp_region_i (by rfl) ?_
      simp only [RC, RL, RM, ↓evs_eq, loadN, V.slz, V.slz1, lnB, V.left, V.lenOf, slice3, sliceNil, Option.getD_none, Option.getD_some, sliceOp, cut, upon_each, nextM, entryOp, buildOk, lookup, lookV, update, elemOf, Option.isSome_map, unOp, wanted, aop, tkB, neD, Env.get, Env.put, Env.keep, putD, dstOk, ev, constV, nilSlice, V.demote, V.toOwn, V.cells, ty, R1.res, binOp, isShift, binOpT, isC, intOp, strOp, shiftOp, byteV, index, indexAddr, slice, bounds, hiB, loB, withB, maxV, minV, evs, pickV, lenV, builtin, initEnv, convert, K.isU8, strOf, load, store, fieldOf, append, appT, fltOp, cpxV, realV, imagV, toInt, rangeOp, nextOp, room, fill, placeOf, splice, repl, chunks, Ty.val, Ty.agg, V.plain, H.row, H.ety, AObj.row, Nat.reduceAdd, ↓reduceIte, Nat.reduceEqDiff, Nat.reduceBEq, Nat.reduceBNe, Nat.reduceLT, Int.reduceToNat, Int.reduceEq, Int.reduceLT, Int.reduceLE, reduceCtorEq, Nat.reduceMul, Nat.reduceLeDiff, S_api_Location.enc]
      rw [wp_ret]
      simp only [retQ, results, resultAll, resultOne, Nat.zero_add, scopeQ, RC, RL, RM, ↓evs_eq, loadN, V.slz, V.slz1, lnB, V.left, V.lenOf, slice3, sliceNil, Option.getD_none, Option.getD_some, sliceOp, cut, upon_each, nextM, entryOp, buildOk, lookup, lookV, update, elemOf, Option.isSome_map, unOp, wanted, aop, tkB, neD, Env.get, Env.put, Env.keep, putD, dstOk, ev, constV, nilSlice, V.demote, V.toOwn, V.cells, ty, R1.res, binOp, isShift, binOpT, isC, intOp, strOp, shiftOp, byteV, index, indexAddr, slice, bounds, hiB, loB, withB, maxV, minV, evs, pickV, lenV, builtin, initEnv, convert, K.isU8, strOf, load, store, fieldOf, append, appT, fltOp, cpxV, realV, imagV, toInt, rangeOp, nextOp, room, fill, placeOf, splice, repl, chunks, Ty.val, Ty.agg, V.plain, H.row, H.ety, AObj.row, Nat.reduceAdd, ↓reduceIte, Nat.reduceEqDiff, Nat.reduceBEq, Nat.reduceBNe, Nat.reduceLT, Int.reduceToNat, Int.reduceEq, Int.reduceLT, Int.reduceLE, reduceCtorEq, Nat.reduceMul, Nat.reduceLeDiff, S_api_Location.enc]
      refine ⟨_, (.refl _), ?_⟩
      exact hK _ hq
    · rw [wp_seq]
      refine wp_region_i (by rfl) ?_
      simp only [RC, RL, RM, ↓evs_eq, loadN, V.slz, V.slz1, lnB, V.left, V.lenOf, slice3, sliceNil, Option.getD_none, Option.getD_some, sliceOp, cut, upon_each, nextM, entryOp, buildOk, lookup, lookV, update, elemOf, Option.isSome_map, unOp, wanted, aop, tkB, neD, Env.get, Env.put, Env.keep, putD, dstOk, ev, constV, nilSlice, V.demote, V.toOwn, V.cells, ty, R1.res, binOp, isShift, binOpT, isC, intOp, strOp, shiftOp, byteV, index, indexAddr, slice, bounds, hiB, loB, withB, maxV, minV, evs, pickV, lenV, builtin, initEnv, convert, K.isU8, strOf, load, store, fieldOf, append, appT, fltOp, cpxV, realV, imagV, toInt, rangeOp, nextOp, room, fill, placeOf, splice, repl, chunks, Ty.val, Ty.agg, V.plain, H.row, H.ety, AObj.row, Nat.reduceAdd, ↓reduceIte, Nat.reduceEqDiff, Nat.reduceBEq, Nat.reduceBNe, Nat.reduceLT, Int.reduceToNat, Int.reduceEq, Int.reduceLT, Int.reduceLE, reduceCtorEq, Nat.reduceMul, Nat.reduceLeDiff, S_api_Location.enc]
      rw [wp_block]
      refine loop_in ?_
      refine Wk.le (EnvLe.cons (.refl _) (EnvLe.cons (.refl _) (EnvLe.cons (.top _) (EnvLe.cons (.refl _) (EnvLe.cons (.refl _) (EnvLe.cons (.refl _) (EnvLe.cons (.refl _) (EnvLe.cons (.refl _) (EnvLe.cons (.refl _) EnvLe.nil))))))))) ?_
      obtain ⟨K39, hK40, hq⟩ := R.post_cut hq
      refine loop_gen (acall_mono hp) (σ := V × V × Int × V × V) (fun s => [(0, .sl 1 (List.map (V.int .i64) x0)), (1, .sl 1 (List.map (V.int .i64) x1)), (4, s.1), (5, s.2.1), (10, .bool (!(decide ((List.length x0 : Int) = (List.length x1 : Int))))), (12, .int .i64 (List.length x0 : Int)), (13, .int .i64 s.2.2.1), (14, s.2.2.2.1), (24, s.2.2.2.2)]) (fun s => h) (fun k s => (slices_Equal_int_l1 x0 x1 k s.2.2.1).post K39 X) (fun s hs => hs) (fun k52 s hq N hN41 => ?_) _ (_, _, 0, _, _) hq
      obtain ⟨y4_28, y5_28, x13_28, y14_28, y24_28⟩ := s
      try dsimp only at hq ⊢
      rw [slices_Equal_int_l1] at hq
      rw [wp_seq]
      refine wp_region_i (by rfl) ?_
      simp only [RC, RL, RM, ↓evs_eq, loadN, V.slz, V.slz1, lnB, V.left, V.lenOf, slice3, sliceNil, Option.getD_none, Option.getD_some, sliceOp, cut, upon_each, nextM, entryOp, buildOk, lookup, lookV, update, elemOf, Option.isSome_map, unOp, wanted, aop, tkB, neD, Env.get, Env.put, Env.keep, putD, dstOk, ev, constV, nilSlice, V.demote, V.toOwn, V.cells, ty, R1.res, binOp, isShift, binOpT, isC, intOp, strOp, shiftOp, byteV, index, indexAddr, slice, bounds, hiB, loB, withB, maxV, minV, evs, pickV, lenV, builtin, initEnv, convert, K.isU8, strOf, load, store, fieldOf, append, appT, fltOp, cpxV, realV, imagV, toInt, rangeOp, nextOp, room, fill, placeOf, splice, repl, chunks, Ty.val, Ty.agg, V.plain, H.row, H.ety, AObj.row, Nat.reduceAdd, ↓reduceIte, Nat.reduceEqDiff, Nat.reduceBEq, Nat.reduceBNe, Nat.reduceLT, Int.reduceToNat, Int.reduceEq, Int.reduceLT, Int.reduceLE, reduceCtorEq, Nat.reduceMul, Nat.reduceLeDiff, S_api_Location.enc]
      rw [wp_seq]
      rw [wp_cond]
      simp only [RC, RL, RM, ↓evs_eq, loadN, V.slz, V.slz1, lnB, V.left, V.lenOf, slice3, sliceNil, Option.getD_none, Option.getD_some, sliceOp, cut, upon_each, nextM, entryOp, buildOk, lookup, lookV, update, elemOf, Option.isSome_map, unOp, wanted, aop, tkB, neD, Env.get, Env.put, Env.keep, putD, dstOk, ev, constV, nilSlice, V.demote, V.toOwn, V.cells, ty, R1.res, binOp, isShift, binOpT, isC, intOp, strOp, shiftOp, byteV, index, indexAddr, slice, bounds, hiB, loB, withB, maxV, minV, evs, pickV, lenV, builtin, initEnv, convert, K.isU8, strOf, load, store, fieldOf, append, appT, fltOp, cpxV, realV, imagV, toInt, rangeOp, nextOp, room, fill, placeOf, splice, repl, chunks, Ty.val, Ty.agg, V.plain, H.row, H.ety, AObj.row, Nat.reduceAdd, ↓reduceIte, Nat.reduceEqDiff, Nat.reduceBEq, Nat.reduceBNe, Nat.reduceLT, Int.reduceToNat, Int.reduceEq, Int.reduceLT, Int.reduceLE, reduceCtorEq, Nat.reduceMul, Nat.reduceLeDiff, S_api_Location.enc]
      by_cases hc42 : x13_28 < (List.length x0 : Int)
      · replace hq := (R.post_if hq).1 hc42
        refine condK_t (congrArg V.bool (decide_eq_true hc42)) ?_
        try simp only [wp_skip, RC]
        refine Wk.same ?_
        try simp only [RC]
        rw [wp_seq]
        rw [wp_block]
        rw [wp_seq]
        refine wp_region_i (by rfl) ?_
        simp only [RC, RL, RM, ↓evs_eq, loadN, V.slz, V.slz1, lnB, V.left, V.lenOf, slice3, sliceNil, Option.getD_none, Option.getD_some, sliceOp, cut, upon_each, nextM, entryOp, buildOk, lookup, lookV, update, elemOf, Option.isSome_map, unOp, wanted, aop, tkB, neD, Env.get, Env.put, Env.keep, putD, dstOk, ev, constV, nilSlice, V.demote, V.toOwn, V.cells, ty, R1.res, binOp, isShift, binOpT, isC, intOp, strOp, shiftOp, byteV, index, indexAddr, slice, bounds, hiB, loB, withB, maxV, minV, evs, pickV, lenV, builtin, initEnv, convert, K.isU8, strOf, load, store, fieldOf, append, appT, fltOp, cpxV, realV, imagV, toInt, rangeOp, nextOp, room, fill, placeOf, splice, repl, chunks, Ty.val, Ty.agg, V.plain, H.row, H.ety, AObj.row, Nat.reduceAdd, ↓reduceIte, Nat.reduceEqDiff, Nat.reduceBEq, Nat.reduceBNe, Nat.reduceLT, Int.reduceToNat, Int.reduceEq, Int.reduceLT, Int.reduceLE, reduceCtorEq, Nat.reduceMul, Nat.reduceLeDiff, S_api_Location.enc]
        rw [wp_seq]
        refine wp_draw (acall_mono hp) (by kernel_rfl) (by rfl) ?_
        obtain ⟨g47, hq⟩ := R.guard hq
        obtain ⟨g49, hq⟩ := R.guard hq
        have e48 := map_gt (f := (V.int .i64)) (l := x0) (i := x13_28) g47
        have e50 := map_gt (f := (V.int .i64)) (l := x1) (i := x13_28) g49
        simp only [e48, e50, RC, RL, RM, ↓evs_eq, loadN, V.slz, V.slz1, lnB, V.left, V.lenOf, slice3, sliceNil, Option.getD_none, Option.getD_some, sliceOp, cut, upon_each, nextM, entryOp, buildOk, lookup, lookV, update, elemOf, Option.isSome_map, unOp, wanted, aop, tkB, neD, Env.get, Env.put, Env.keep, putD, dstOk, ev, constV, nilSlice, V.demote, V.toOwn, V.cells, ty, R1.res, binOp, isShift, binOpT, isC, intOp, strOp, shiftOp, byteV, index, indexAddr, slice, bounds, hiB, loB, withB, maxV, minV, evs, pickV, lenV, builtin, initEnv, convert, K.isU8, strOf, load, store, fieldOf, append, appT, fltOp, cpxV, realV, imagV, toInt, rangeOp, nextOp, room, fill, placeOf, splice, repl, chunks, Ty.val, Ty.agg, V.plain, H.row, H.ety, AObj.row, Nat.reduceAdd, ↓reduceIte, Nat.reduceEqDiff, Nat.reduceBEq, Nat.reduceBNe, Nat.reduceLT, Int.reduceToNat, Int.reduceEq, Int.reduceLT, Int.reduceLE, reduceCtorEq, Nat.reduceMul, Nat.reduceLeDiff, S_api_Location.enc]
        repeat (with_reducible refine And.intro (by first | omega | assumption) ?_)
        rw [wp_cond]
        simp only [RC, RL, RM, ↓evs_eq, loadN, V.slz, V.slz1, lnB, V.left, V.lenOf, slice3, sliceNil, Option.getD_none, Option.getD_some, sliceOp, cut, upon_each, nextM, entryOp, buildOk, lookup, lookV, update, elemOf, Option.isSome_map, unOp, wanted, aop, tkB, neD, Env.get, Env.put, Env.keep, putD, dstOk, ev, constV, nilSlice, V.demote, V.toOwn, V.cells, ty, R1.res, binOp, isShift, binOpT, isC, intOp, strOp, shiftOp, byteV, index, indexAddr, slice, bounds, hiB, loB, withB, maxV, minV, evs, pickV, lenV, builtin, initEnv, convert, K.isU8, strOf, load, store, fieldOf, append, appT, fltOp, cpxV, realV, imagV, toInt, rangeOp, nextOp, room, fill, placeOf, splice, repl, chunks, Ty.val, Ty.agg, V.plain, H.row, H.ety, AObj.row, Nat.reduceAdd, ↓reduceIte, Nat.reduceEqDiff, Nat.reduceBEq, Nat.reduceBNe, Nat.reduceLT, Int.reduceToNat, Int.reduceEq, Int.reduceLT, Int.reduceLE, reduceCtorEq, Nat.reduceMul, Nat.reduceLeDiff, S_api_Location.enc]
        by_cases hc51 : (gt x0 x13_28) = (gt x1 x13_28)
        · replace hq := (R.post_if hq).1 hc51
          refine condK_f (congrArg (fun b => V.bool (!b)) (decide_eq_true hc51)) ?_
          try simp only [wp_skip, RC]
          refine Wk.same ?_
          try simp only [RC]
          refine Wk.same ?_
          try simp only [RC]
          refine wp_region_i (by rfl) ?_
          simp only [RC, RL, RM, ↓evs_eq, loadN, V.slz, V.slz1, lnB, V.left, V.lenOf, slice3, sliceNil, Option.getD_none, Option.getD_some, sliceOp, cut, upon_each, nextM, entryOp, buildOk, lookup, lookV, update, elemOf, Option.isSome_map, unOp, wanted, aop, tkB, neD, Env.get, Env.put, Env.keep, putD, dstOk, ev, constV, nilSlice, V.demote, V.toOwn, V.cells, ty, R1.res, binOp, isShift, binOpT, isC, intOp, strOp, shiftOp, byteV, index, indexAddr, slice, bounds, hiB, loB, withB, maxV, minV, evs, pickV, lenV, builtin, initEnv, convert, K.isU8, strOf, load, store, fieldOf, append, appT, fltOp, cpxV, realV, imagV, toInt, rangeOp, nextOp, room, fill, placeOf, splice, repl, chunks, Ty.val, Ty.agg, V.plain, H.row, H.ety, AObj.row, Nat.reduceAdd, ↓reduceIte, Nat.reduceEqDiff, Nat.reduceBEq, Nat.reduceBNe, Nat.reduceLT, Int.reduceToNat, Int.reduceEq, Int.reduceLT, Int.reduceLE, reduceCtorEq, Nat.reduceMul, Nat.reduceLeDiff, S_api_Location.enc]
          refine Wk.le (EnvLe.cons (.refl _) (EnvLe.cons (.refl _) (EnvLe.cons (.refl _) (EnvLe.cons (.top _) (EnvLe.cons (.refl _) (EnvLe.cons (.refl _) (EnvLe.cons (.refl _) (EnvLe.cons (.top _) (EnvLe.cons (.top _) EnvLe.nil))))))))) ?_
          exact hN41 (_, _, (IntKind.wrap .i64 (x13_28 + 1)), _, _) hq
        · replace hq := (R.post_if hq).2 hc51
          refine condK_t (congrArg (fun b => V.bool (!b)) (decide_eq_false hc51)) ?_
          rw [wp_seq]
          refine wp_region_i (by rfl) ?_
          simp only [RC, RL, RM, ↓evs_eq, loadN, V.slz, V.slz1, lnB, V.left, V.lenOf, slice3, sliceNil, Option.getD_none, Option.getD_some, sliceOp, cut, upon_each, nextM, entryOp, buildOk, lookup, lookV, update, elemOf, Option.isSome_map, unOp, wanted, aop, tkB, neD, Env.get, Env.put, Env.keep, putD, dstOk, ev, constV, nilSlice, V.demote, V.toOwn, V.cells, ty, R1.res, binOp, isShift, binOpT, isC, intOp, strOp, shiftOp, byteV, index, indexAddr, slice, bounds, hiB, loB, withB, maxV, minV, evs, pickV, lenV, builtin, initEnv, convert, K.isU8, strOf, load, store, fieldOf, append, appT, fltOp, cpxV, realV, imagV, toInt, rangeOp, nextOp, room, fill, placeOf, splice, repl, chunks, Ty.val, Ty.agg, V.plain, H.row, H.ety, AObj.row, Nat.reduceAdd, ↓reduceIte, Nat.reduceEqDiff, Nat.reduceBEq, Nat.reduceBNe, Nat.reduceLT, Int.reduceToNat, Int.reduceEq, Int.reduceLT, Int.reduceLE, reduceCtorEq, Nat.reduceMul, Nat.reduceLeDiff, S_api_Location.enc]
          rw [wp_ret]
          simp only [retQ, results, resultAll, resultOne, Nat.zero_add, scopeQ, RC, RL, RM, ↓evs_eq, loadN, V.slz, V.slz1, lnB, V.left, V.lenOf, slice3, sliceNil, Option.getD_none, Option.getD_some, sliceOp, cut, upon_each, nextM, entryOp, buildOk, lookup, lookV, update, elemOf, Option.isSome_map, unOp, wanted, aop, tkB, neD, Env.get, Env.put, Env.keep, putD, dstOk, ev, constV, nilSlice, V.demote, V.toOwn, V.cells, ty, R1.res, binOp, isShift, binOpT, isC, intOp, strOp, shiftOp, byteV, index, indexAddr, slice, bounds, hiB, loB, withB, maxV, minV, evs, pickV, lenV, builtin, initEnv, convert, K.isU8, strOf, load, store, fieldOf, append, appT, fltOp, cpxV, realV, imagV, toInt, rangeOp, nextOp, room, fill, placeOf, splice, repl, chunks, Ty.val, Ty.agg, V.plain, H.row, H.ety, AObj.row, Nat.reduceAdd, ↓reduceIte, Nat.reduceEqDiff, Nat.reduceBEq, Nat.reduceBNe, Nat.reduceLT, Int.reduceToNat, Int.reduceEq, Int.reduceLT, Int.reduceLE, reduceCtorEq, Nat.reduceMul, Nat.reduceLeDiff, S_api_Location.enc]
          refine ⟨_, (.refl _), ?_⟩
          replace hq := hK40 _ hq
          exact hK _ hq
      · replace hq := (R.post_if hq).2 hc42
        refine condK_f (congrArg V.bool (decide_eq_false hc42)) ?_
        rw [wp_exit]
        try simp only [↓reduceIte, Nat.reduceEqDiff, reduceCtorEq, if_false, if_true, eq_self, Nat.succ_ne_self, RC]
        replace hq := hK40 _ hq
        try dsimp only at hq
        refine Wk.le (EnvLe.cons (.refl _) (EnvLe.cons (.refl _) (EnvLe.cons (.refl _) (EnvLe.cons (.refl _) (EnvLe.cons (.refl _) (EnvLe.cons (.top _) (EnvLe.cons (.top _) (EnvLe.cons (.top _) (EnvLe.cons (.refl _) EnvLe.nil))))))))) ?_
        try simp only [RC]
        exact hN27 (_, _, _, _, _, _) hq
  · replace hq := (R.post_if hq).2 hc2
    refine condK_t (congrArg (fun b => V.bool (!b)) (decide_eq_false hc2)) ?_
    rw [wp_seq]
    refine wp_region_i (by rfl) ?_
    simp only [RC, RL, RM, ↓evs_eq, loadN, V.slz, V.slz1, lnB, V.left, V.lenOf, slice3, sliceNil, Option.getD_none, Option.getD_some, sliceOp, cut, upon_each, nextM, entryOp, buildOk, lookup, lookV, update, elemOf, Option.isSome_map, unOp, wanted, aop, tkB, neD, Env.get, Env.put, Env.keep, putD, dstOk, ev, constV, nilSlice, V.demote, V.toOwn, V.cells, ty, R1.res, binOp, isShift, binOpT, isC, intOp, strOp, shiftOp, byteV, index, indexAddr, slice, bounds, hiB, loB, withB, maxV, minV, evs, pickV, lenV, builtin, initEnv, convert, K.isU8, strOf, load, store, fieldOf, append, appT, fltOp, cpxV, realV, imagV, toInt, rangeOp, nextOp, room, fill, placeOf, splice, repl, chunks, Ty.val, Ty.agg, V.plain, H.row, H.ety, AObj.row, Nat.reduceAdd, ↓reduceIte, Nat.reduceEqDiff, Nat.reduceBEq, Nat.reduceBNe, Nat.reduceLT, Int.reduceToNat, Int.reduceEq, Int.reduceLT, Int.reduceLE, reduceCtorEq, Nat.reduceMul, Nat.reduceLeDiff, S_api_Location.enc]
    rw [wp_ret]
    simp only [retQ, results, resultAll, resultOne, Nat.zero_add, scopeQ, RC, RL, RM, ↓evs_eq, loadN, V.slz, V.slz1, lnB, V.left, V.lenOf, slice3, sliceNil, Option.getD_none, Option.getD_some, sliceOp, cut, upon_each, nextM, entryOp, buildOk, lookup, lookV, update, elemOf, Option.isSome_map, unOp, wanted, aop, tkB, neD, Env.get, Env.put, Env.keep, putD, dstOk, ev, constV, nilSlice, V.demote, V.toOwn, V.cells, ty, R1.res, binOp, isShift, binOpT, isC, intOp, strOp, shiftOp, byteV, index, indexAddr, slice, bounds, hiB, loB, withB, maxV, minV, evs, pickV, lenV, builtin, initEnv, convert, K.isU8, strOf, load, store, fieldOf, append, appT, fltOp, cpxV, realV, imagV, toInt, rangeOp, nextOp, room, fill, placeOf, splice, repl, chunks, Ty.val, Ty.agg, V.plain, H.row, H.ety, AObj.row, Nat.reduceAdd, ↓reduceIte, Nat.reduceEqDiff, Nat.reduceBEq, Nat.reduceBNe, Nat.reduceLT, Int.reduceToNat, Int.reduceEq, Int.reduceLT, Int.reduceLE, reduceCtorEq, Nat.reduceMul, Nat.reduceLeDiff, S_api_Location.enc]
    refine ⟨_, (.refl _), ?_⟩
    exact hK _ hq

def source_Docs_j0 : R ((List UInt8)) :=
  R.ok []
def source_Docs_l1 (x0 : List S_api_Location) (x1 : List Int) : Nat → Int → R ((Unit) ⊕ ((List UInt8)))
  | 0, _ => R.stuck
  | k + 1, x9_68 => if x9_68 < (List.length x0 : Int) then (if 0 ≤ x9_68 ∧ x9_68 < (List.length x0 : Int) then ((slices_Equal_int ((gt x0 x9_68).Path) x1).bind fun r92 => if r92 = true then (R.ok (.inr ((gt x0 x9_68).Doc))) else (source_Docs_l1 x0 x1 k (IntKind.wrap .i64 (x9_68 + 1)))) else R.stuck) else (R.ok (.inl ()))
def source_Docs (x0 : List S_api_Location) (x1 : List Int) : R ((List UInt8)) :=
  (source_Docs_l1 x0 x1 Many 0).bind fun | (.inl _) => source_Docs_j0 | (.inr rp98) => R.ok rp98
theorem source_Docs_call {h : H} {x0 : List S_api_Location} {x1 : List Int} {Q : Out → H → Prop} {KK : ((List UInt8)) → Prop} {X : V → Prop} (hq : (source_Docs x0 x1).post KK X) (hK : ∀ r, KK r → Q (.ret (.str r)) h) (hX : ∀ v, X v → V.Cl 0 v ∧ Q (.panic v) h) : CA qprim 5 [.sl 4 (List.map S_api_Location.enc x0), .sl 1 (List.map (V.int .i64) x1)] h Q := by
  refine acalln hp Tryz.func5 rfl (by kernel_rfl) (n := 20) rfl (rs := [.tmp 4]) rfl [0, 1, 4, 6, 7, 8, 9, 10, 16] [] true (by simp) ?_
  unfold source_Docs at hq
  simp only [initEnv, List.map_cons, List.map_nil, List.getD_cons_zero, List.getD_cons_succ, List.getD_nil, V.demote]
  rw [wp_seq]
  refine wp_region_i (by rfl) ?_
  simp only [RC, RL, RM, ↓evs_eq, loadN, V.slz, V.slz1, lnB, V.left, V.lenOf, slice3, sliceNil, Option.getD_none, Option.getD_some, sliceOp, cut, upon_each, nextM, entryOp, buildOk, lookup, lookV, update, elemOf, Option.isSome_map, unOp, wanted, aop, tkB, neD, Env.get, Env.put, Env.keep, putD, dstOk, ev, constV, nilSlice, V.demote, V.toOwn, V.cells, ty, R1.res, binOp, isShift, binOpT, isC, intOp, strOp, shiftOp, byteV, index, indexAddr, slice, bounds, hiB, loB, withB, maxV, minV, evs, pickV, lenV, builtin, initEnv, convert, K.isU8, strOf, load, store, fieldOf, append, appT, fltOp, cpxV, realV, imagV, toInt, rangeOp, nextOp, room, fill, placeOf, splice, repl, chunks, Ty.val, Ty.agg, V.plain, H.row, H.ety, AObj.row, Nat.reduceAdd, ↓reduceIte, Nat.reduceEqDiff, Nat.reduceBEq, Nat.reduceBNe, Nat.reduceLT, Int.reduceToNat, Int.reduceEq, Int.reduceLT, Int.reduceLE, reduceCtorEq, Nat.reduceMul, Nat.reduceLeDiff, S_api_Location.enc]
  refine seq_gen (acall_mono hp) (σ := V × V × V × V × V × V × V × V) (fun s => [(0, s.1), (1, .sl 1 (List.map (V.int .i64) x1)), (4, s.2.1), (6, s.2.2.1), (7, s.2.2.2.1), (8, s.2.2.2.2.1), (9, s.2.2.2.2.2.1), (10, s.2.2.2.2.2.2.1), (16, s.2.2.2.2.2.2.2)]) (fun s => h) (fun s => (source_Docs_j0).post KK X) (fun s hq => ?_) (fun N hN54 => ?_)
  · obtain ⟨y0_53, y4_53, y6_53, y7_53, y8_53, y9_53, y10_53, y16_53⟩ := s
    try dsimp only at hq ⊢
    unfold source_Docs_j0 at hq
    rw [wp_seq]
    refine wp_region_i (by rfl) ?_
    simp only [RC, RL, RM, ↓evs_eq, loadN, V.slz, V.slz1, lnB, V.left, V.lenOf, slice3, sliceNil, Option.getD_none, Option.getD_some, sliceOp, cut, upon_each, nextM, entryOp, buildOk, lookup, lookV, update, elemOf, Option.isSome_map, unOp, wanted, aop, tkB, neD, Env.get, Env.put, Env.keep, putD, dstOk, ev, constV, nilSlice, V.demote, V.toOwn, V.cells, ty, R1.res, binOp, isShift, binOpT, isC, intOp, strOp, shiftOp, byteV, index, indexAddr, slice, bounds, hiB, loB, withB, maxV, minV, evs, pickV, lenV, builtin, initEnv, convert, K.isU8, strOf, load, store, fieldOf, append, appT, fltOp, cpxV, realV, imagV, toInt, rangeOp, nextOp, room, fill, placeOf, splice, repl, chunks, Ty.val, Ty.agg, V.plain, H.row, H.ety, AObj.row, Nat.reduceAdd, ↓reduceIte, Nat.reduceEqDiff, Nat.reduceBEq, Nat.reduceBNe, Nat.reduceLT, Int.reduceToNat, Int.reduceEq, Int.reduceLT, Int.reduceLE, reduceCtorEq, Nat.reduceMul, Nat.reduceLeDiff, S_api_Location.enc]
    rw [wp_ret]
    simp only [retQ, results, resultAll, resultOne, Nat.zero_add, scopeQ, RC, RL, RM, ↓evs_eq, loadN, V.slz, V.slz1, lnB, V.left, V.lenOf, slice3, sliceNil, Option.getD_none, Option.getD_some, sliceOp, cut, upon_each, nextM, entryOp, buildOk, lookup, lookV, update, elemOf, Option.isSome_map, unOp, wanted, aop, tkB, neD, Env.get, Env.put, Env.keep, putD, dstOk, ev, constV, nilSlice, V.demote, V.toOwn, V.cells, ty, R1.res, binOp, isShift, binOpT, isC, intOp, strOp, shiftOp, byteV, index, indexAddr, slice, bounds, hiB, loB, withB, maxV, minV, evs, pickV, lenV, builtin, initEnv, convert, K.isU8, strOf, load, store, fieldOf, append, appT, fltOp, cpxV, realV, imagV, toInt, rangeOp, nextOp, room, fill, placeOf, splice, repl, chunks, Ty.val, Ty.agg, V.plain, H.row, H.ety, AObj.row, Nat.reduceAdd, ↓reduceIte, Nat.reduceEqDiff, Nat.reduceBEq, Nat.reduceBNe, Nat.reduceLT, Int.reduceToNat, Int.reduceEq, Int.reduceLT, Int.reduceLE, reduceCtorEq, Nat.reduceMul, Nat.reduceLeDiff, S_api_Location.enc]
    refine ⟨_, (.refl _), ?_⟩
    refine leave_ok0 rfl (.str _) ?_
    exact hK _ hq
  · rw [wp_seq]
    refine wp_region_i (by rfl) ?_
    simp only [RC, RL, RM, ↓evs_eq, loadN, V.slz, V.slz1, lnB, V.left, V.lenOf, slice3, sliceNil, Option.getD_none, Option.getD_some, sliceOp, cut, upon_each, nextM, entryOp, buildOk, lookup, lookV, update, elemOf, Option.isSome_map, unOp, wanted, aop, tkB, neD, Env.get, Env.put, Env.keep, putD, dstOk, ev, constV, nilSlice, V.demote, V.toOwn, V.cells, ty, R1.res, binOp, isShift, binOpT, isC, intOp, strOp, shiftOp, byteV, index, indexAddr, slice, bounds, hiB, loB, withB, maxV, minV, evs, pickV, lenV, builtin, initEnv, convert, K.isU8, strOf, load, store, fieldOf, append, appT, fltOp, cpxV, realV, imagV, toInt, rangeOp, nextOp, room, fill, placeOf, splice, repl, chunks, Ty.val, Ty.agg, V.plain, H.row, H.ety, AObj.row, Nat.reduceAdd, ↓reduceIte, Nat.reduceEqDiff, Nat.reduceBEq, Nat.reduceBNe, Nat.reduceLT, Int.reduceToNat, Int.reduceEq, Int.reduceLT, Int.reduceLE, reduceCtorEq, Nat.reduceMul, Nat.reduceLeDiff, S_api_Location.enc]
    rw [wp_block]
    refine loop_in ?_
    refine Wk.le (EnvLe.cons (.top _) (EnvLe.cons (.refl _) (EnvLe.cons (.top _) (EnvLe.cons (.refl _) (EnvLe.cons (.refl _) (EnvLe.cons (.refl _) (EnvLe.cons (.refl _) (EnvLe.cons (.refl _) (EnvLe.cons (.refl _) EnvLe.nil))))))))) ?_
    obtain ⟨K81, hK82, hq⟩ := R.post_cut hq
    refine loop_gen (acall_mono hp) (σ := V × V × V × Int × V × V) (fun s => [(0, s.1), (1, .sl 1 (List.map (V.int .i64) x1)), (4, s.2.1), (6, s.2.2.1), (7, .sl 4 (List.map S_api_Location.enc x0)), (8, .int .i64 (List.length x0 : Int)), (9, .int .i64 s.2.2.2.1), (10, s.2.2.2.2.1), (16, s.2.2.2.2.2)]) (fun s => h) (fun k s => (source_Docs_l1 x0 x1 k s.2.2.2.1).post K81 X) (fun s hs => hs) (fun k96 s hq N hN83 => ?_) _ (_, _, _, 0, _, _) hq
    obtain ⟨y0_68, y4_68, y6_68, x9_68, y10_68, y16_68⟩ := s
    try dsimp only at hq ⊢
    rw [source_Docs_l1] at hq
    rw [wp_seq]
    refine wp_region_i (by rfl) ?_
    simp only [RC, RL, RM, ↓evs_eq, loadN, V.slz, V.slz1, lnB, V.left, V.lenOf, slice3, sliceNil, Option.getD_none, Option.getD_some, sliceOp, cut, upon_each, nextM, entryOp, buildOk, lookup, lookV, update, elemOf, Option.isSome_map, unOp, wanted, aop, tkB, neD, Env.get, Env.put, Env.keep, putD, dstOk, ev, constV, nilSlice, V.demote, V.toOwn, V.cells, ty, R1.res, binOp, isShift, binOpT, isC, intOp, strOp, shiftOp, byteV, index, indexAddr, slice, bounds, hiB, loB, withB, maxV, minV, evs, pickV, lenV, builtin, initEnv, convert, K.isU8, strOf, load, store, fieldOf, append, appT, fltOp, cpxV, realV, imagV, toInt, rangeOp, nextOp, room, fill, placeOf, splice, repl, chunks, Ty.val, Ty.agg, V.plain, H.row, H.ety, AObj.row, Nat.reduceAdd, ↓reduceIte, Nat.reduceEqDiff, Nat.reduceBEq, Nat.reduceBNe, Nat.reduceLT, Int.reduceToNat, Int.reduceEq, Int.reduceLT, Int.reduceLE, reduceCtorEq, Nat.reduceMul, Nat.reduceLeDiff, S_api_Location.enc]
    rw [wp_seq]
    rw [wp_cond]
    simp only [RC, RL, RM, ↓evs_eq, loadN, V.slz, V.slz1, lnB, V.left, V.lenOf, slice3, sliceNil, Option.getD_none, Option.getD_some, sliceOp, cut, upon_each, nextM, entryOp, buildOk, lookup, lookV, update, elemOf, Option.isSome_map, unOp, wanted, aop, tkB, neD, Env.get, Env.put, Env.keep, putD, dstOk, ev, constV, nilSlice, V.demote, V.toOwn, V.cells, ty, R1.res, binOp, isShift, binOpT, isC, intOp, strOp, shiftOp, byteV, index, indexAddr, slice, bounds, hiB, loB, withB, maxV, minV, evs, pickV, lenV, builtin, initEnv, convert, K.isU8, strOf, load, store, fieldOf, append, appT, fltOp, cpxV, realV, imagV, toInt, rangeOp, nextOp, room, fill, placeOf, splice, repl, chunks, Ty.val, Ty.agg, V.plain, H.row, H.ety, AObj.row, Nat.reduceAdd, ↓reduceIte, Nat.reduceEqDiff, Nat.reduceBEq, Nat.reduceBNe, Nat.reduceLT, Int.reduceToNat, Int.reduceEq, Int.reduceLT, Int.reduceLE, reduceCtorEq, Nat.reduceMul, Nat.reduceLeDiff, S_api_Location.enc]
    by_cases hc84 : x9_68 < (List.length x0 : Int)
    · replace hq := (R.post_if hq).1 hc84
      refine condK_t (congrArg V.bool (decide_eq_true hc84)) ?_
      try simp only [wp_skip, RC]
      refine Wk.same ?_
      try simp only [RC]
      rw [wp_seq]
      rw [wp_block]
      rw [wp_seq]
      refine wp_region_i (by rfl) ?_
      obtain ⟨g87, hq⟩ := R.guard hq
      have e88 := map_gt (f := S_api_Location.enc) (l := x0) (i := x9_68) g87
      simp only [e88, RC, RL, RM, ↓evs_eq, loadN, V.slz, V.slz1, lnB, V.left, V.lenOf, slice3, sliceNil, Option.getD_none, Option.getD_some, sliceOp, cut, upon_each, nextM, entryOp, buildOk, lookup, lookV, update, elemOf, Option.isSome_map, unOp, wanted, aop, tkB, neD, Env.get, Env.put, Env.keep, putD, dstOk, ev, constV, nilSlice, V.demote, V.toOwn, V.cells, ty, R1.res, binOp, isShift, binOpT, isC, intOp, strOp, shiftOp, byteV, index, indexAddr, slice, bounds, hiB, loB, withB, maxV, minV, evs, pickV, lenV, builtin, initEnv, convert, K.isU8, strOf, load, store, fieldOf, append, appT, fltOp, cpxV, realV, imagV, toInt, rangeOp, nextOp, room, fill, placeOf, splice, repl, chunks, Ty.val, Ty.agg, V.plain, H.row, H.ety, AObj.row, Nat.reduceAdd, ↓reduceIte, Nat.reduceEqDiff, Nat.reduceBEq, Nat.reduceBNe, Nat.reduceLT, Int.reduceToNat, Int.reduceEq, Int.reduceLT, Int.reduceLE, reduceCtorEq, Nat.reduceMul, Nat.reduceLeDiff, S_api_Location.enc]
      repeat (with_reducible refine And.intro (by first | omega | assumption) ?_)
      rw [wp_seq]
      refine wp_region_i (by rfl) ?_
      simp only [RC, RL, RM, ↓evs_eq, loadN, V.slz, V.slz1, lnB, V.left, V.lenOf, slice3, sliceNil, Option.getD_none, Option.getD_some, sliceOp, cut, upon_each, nextM, entryOp, buildOk, lookup, lookV, update, elemOf, Option.isSome_map, unOp, wanted, aop, tkB, neD, Env.get, Env.put, Env.keep, putD, dstOk, ev, constV, nilSlice, V.demote, V.toOwn, V.cells, ty, R1.res, binOp, isShift, binOpT, isC, intOp, strOp, shiftOp, byteV, index, indexAddr, slice, bounds, hiB, loB, withB, maxV, minV, evs, pickV, lenV, builtin, initEnv, convert, K.isU8, strOf, load, store, fieldOf, append, appT, fltOp, cpxV, realV, imagV, toInt, rangeOp, nextOp, room, fill, placeOf, splice, repl, chunks, Ty.val, Ty.agg, V.plain, H.row, H.ety, AObj.row, Nat.reduceAdd, ↓reduceIte, Nat.reduceEqDiff, Nat.reduceBEq, Nat.reduceBNe, Nat.reduceLT, Int.reduceToNat, Int.reduceEq, Int.reduceLT, Int.reduceLE, reduceCtorEq, Nat.reduceMul, Nat.reduceLeDiff, S_api_Location.enc]
      obtain ⟨K94, hK95, hq⟩ := R.post_cut hq
      refine slices_Equal_int_call (x0 := (gt x0 x9_68).Path) (x1 := x1) hq (fun r92 hq => ?_) (fun v hv => ⟨(hX v hv).1, ?_⟩)
      · replace hq := hK95 _ hq
        simp only [RC, RL, RM, ↓evs_eq, loadN, V.slz, V.slz1, lnB, V.left, V.lenOf, slice3, sliceNil, Option.getD_none, Option.getD_some, sliceOp, cut, upon_each, nextM, entryOp, buildOk, lookup, lookV, update, elemOf, Option.isSome_map, unOp, wanted, aop, tkB, neD, Env.get, Env.put, Env.keep, putD, dstOk, ev, constV, nilSlice, V.demote, V.toOwn, V.cells, ty, R1.res, binOp, isShift, binOpT, isC, intOp, strOp, shiftOp, byteV, index, indexAddr, slice, bounds, hiB, loB, withB, maxV, minV, evs, pickV, lenV, builtin, initEnv, convert, K.isU8, strOf, load, store, fieldOf, append, appT, fltOp, cpxV, realV, imagV, toInt, rangeOp, nextOp, room, fill, placeOf, splice, repl, chunks, Ty.val, Ty.agg, V.plain, H.row, H.ety, AObj.row, Nat.reduceAdd, ↓reduceIte, Nat.reduceEqDiff, Nat.reduceBEq, Nat.reduceBNe, Nat.reduceLT, Int.reduceToNat, Int.reduceEq, Int.reduceLT, Int.reduceLE, reduceCtorEq, Nat.reduceMul, Nat.reduceLeDiff, S_api_Location.enc]
        rw [wp_cond]
        simp only [RC, RL, RM, ↓evs_eq, loadN, V.slz, V.slz1, lnB, V.left, V.lenOf, slice3, sliceNil, Option.getD_none, Option.getD_some, sliceOp, cut, upon_each, nextM, entryOp, buildOk, lookup, lookV, update, elemOf, Option.isSome_map, unOp, wanted, aop, tkB, neD, Env.get, Env.put, Env.keep, putD, dstOk, ev, constV, nilSlice, V.demote, V.toOwn, V.cells, ty, R1.res, binOp, isShift, binOpT, isC, intOp, strOp, shiftOp, byteV, index, indexAddr, slice, bounds, hiB, loB, withB, maxV, minV, evs, pickV, lenV, builtin, initEnv, convert, K.isU8, strOf, load, store, fieldOf, append, appT, fltOp, cpxV, realV, imagV, toInt, rangeOp, nextOp, room, fill, placeOf, splice, repl, chunks, Ty.val, Ty.agg, V.plain, H.row, H.ety, AObj.row, Nat.reduceAdd, ↓reduceIte, Nat.reduceEqDiff, Nat.reduceBEq, Nat.reduceBNe, Nat.reduceLT, Int.reduceToNat, Int.reduceEq, Int.reduceLT, Int.reduceLE, reduceCtorEq, Nat.reduceMul, Nat.reduceLeDiff, S_api_Location.enc]
        by_cases hc93 : r92 = true
        · replace hq := (R.post_if hq).1 hc93
          refine condK_t (congrArg V.bool (hc93)) ?_
          rw [wp_seq]
          refine wp_region_i (by rfl) ?_
          simp only [RC, RL, RM, ↓evs_eq, loadN, V.slz, V.slz1, lnB, V.left, V.lenOf, slice3, sliceNil, Option.getD_none, Option.getD_some, sliceOp, cut, upon_each, nextM, entryOp, buildOk, lookup, lookV, update, elemOf, Option.isSome_map, unOp, wanted, aop, tkB, neD, Env.get, Env.put, Env.keep, putD, dstOk, ev, constV, nilSlice, V.demote, V.toOwn, V.cells, ty, R1.res, binOp, isShift, binOpT, isC, intOp, strOp, shiftOp, byteV, index, indexAddr, slice, bounds, hiB, loB, withB, maxV, minV, evs, pickV, lenV, builtin, initEnv, convert, K.isU8, strOf, load, store, fieldOf, append, appT, fltOp, cpxV, realV, imagV, toInt, rangeOp, nextOp, room, fill, placeOf, splice, repl, chunks, Ty.val, Ty.agg, V.plain, H.row, H.ety, AObj.row, Nat.reduceAdd, ↓reduceIte, Nat.reduceEqDiff, Nat.reduceBEq, Nat.reduceBNe, Nat.reduceLT, Int.reduceToNat, Int.reduceEq, Int.reduceLT, Int.reduceLE, reduceCtorEq, Nat.reduceMul, Nat.reduceLeDiff, S_api_Location.enc]
          rw [wp_ret]
          simp only [retQ, results, resultAll, resultOne, Nat.zero_add, scopeQ, RC, RL, RM, ↓evs_eq, loadN, V.slz, V.slz1, lnB, V.left, V.lenOf, slice3, sliceNil, Option.getD_none, Option.getD_some, sliceOp, cut, upon_each, nextM, entryOp, buildOk, lookup, lookV, update, elemOf, Option.isSome_map, unOp, wanted, aop, tkB, neD, Env.get, Env.put, Env.keep, putD, dstOk, ev, constV, nilSlice, V.demote, V.toOwn, V.cells, ty, R1.res, binOp, isShift, binOpT, isC, intOp, strOp, shiftOp, byteV, index, indexAddr, slice, bounds, hiB, loB, withB, maxV, minV, evs, pickV, lenV, builtin, initEnv, convert, K.isU8, strOf, load, store, fieldOf, append, appT, fltOp, cpxV, realV, imagV, toInt, rangeOp, nextOp, room, fill, placeOf, splice, repl, chunks, Ty.val, Ty.agg, V.plain, H.row, H.ety, AObj.row, Nat.reduceAdd, ↓reduceIte, Nat.reduceEqDiff, Nat.reduceBEq, Nat.reduceBNe, Nat.reduceLT, Int.reduceToNat, Int.reduceEq, Int.reduceLT, Int.reduceLE, reduceCtorEq, Nat.reduceMul, Nat.reduceLeDiff, S_api_Location.enc]
          refine ⟨_, (.refl _), ?_⟩
          refine leave_ok rfl (.str _) ?_
          replace hq := hK82 _ hq
          exact hK _ hq
        · replace hq := (R.post_if hq).2 hc93
          replace hc93 := eq_false_of_ne_true hc93
          refine condK_f (congrArg V.bool (hc93)) ?_
          try simp only [wp_skip, RC]
          refine Wk.same ?_
          try simp only [RC]
          refine Wk.drop0 (by rfl) (EnvLe.cons (.top _) (EnvLe.cons (.refl _) (EnvLe.cons (.top _) (EnvLe.cons (.top _) (EnvLe.cons (.refl _) (EnvLe.cons (.refl _) (EnvLe.cons (.refl _) (EnvLe.cons (.top _) (EnvLe.cons (.top _) EnvLe.nil))))))))) (EnvCl.cons .top (EnvCl.cons (.sl _ _ (cl_map (fun x => .int _ _))) (EnvCl.cons .top (EnvCl.cons .top (EnvCl.cons (.sl _ _ (cl_map (S_api_Location.cl _))) (EnvCl.cons (.int _ _) (EnvCl.cons (.int _ _) (EnvCl.cons .top (EnvCl.cons .top (EnvCl.nil _)))))))))) ?_
          try simp only [RC]
          refine wp_region_i (by rfl) ?_
          simp only [RC, RL, RM, ↓evs_eq, loadN, V.slz, V.slz1, lnB, V.left, V.lenOf, slice3, sliceNil, Option.getD_none, Option.getD_some, sliceOp, cut, upon_each, nextM, entryOp, buildOk, lookup, lookV, update, elemOf, Option.isSome_map, unOp, wanted, aop, tkB, neD, Env.get, Env.put, Env.keep, putD, dstOk, ev, constV, nilSlice, V.demote, V.toOwn, V.cells, ty, R1.res, binOp, isShift, binOpT, isC, intOp, strOp, shiftOp, byteV, index, indexAddr, slice, bounds, hiB, loB, withB, maxV, minV, evs, pickV, lenV, builtin, initEnv, convert, K.isU8, strOf, load, store, fieldOf, append, appT, fltOp, cpxV, realV, imagV, toInt, rangeOp, nextOp, room, fill, placeOf, splice, repl, chunks, Ty.val, Ty.agg, V.plain, H.row, H.ety, AObj.row, Nat.reduceAdd, ↓reduceIte, Nat.reduceEqDiff, Nat.reduceBEq, Nat.reduceBNe, Nat.reduceLT, Int.reduceToNat, Int.reduceEq, Int.reduceLT, Int.reduceLE, reduceCtorEq, Nat.reduceMul, Nat.reduceLeDiff, S_api_Location.enc]
          refine Wk.same ?_
          exact hN83 (_, _, _, (IntKind.wrap .i64 (x9_68 + 1)), _, _) hq
      · simp only [RC, scopeQ, retQ, ↓reduceIte, Bool.false_eq_true]
        exact leaveP_ok ((hX _ hv).1.mono (Nat.zero_le _)) (hX _ hv).2
    · replace hq := (R.post_if hq).2 hc84
      refine condK_f (congrArg V.bool (decide_eq_false hc84)) ?_
      rw [wp_exit]
      try simp only [↓reduceIte, Nat.reduceEqDiff, reduceCtorEq, if_false, if_true, eq_self, Nat.succ_ne_self, RC]
      replace hq := hK82 _ hq
      try dsimp only at hq
      refine Wk.le (EnvLe.cons (.refl _) (EnvLe.cons (.refl _) (EnvLe.cons (.refl _) (EnvLe.cons (.refl _) (EnvLe.cons (.top _) (EnvLe.cons (.top _) (EnvLe.cons (.top _) (EnvLe.cons (.top _) (EnvLe.cons (.refl _) EnvLe.nil))))))))) ?_
      try simp only [RC]
      exact hN54 (_, _, _, _, _, _, _, _) hq

def glossaryref13_SamePath_j0 : R (Bool) :=
  R.ok true
def glossaryref13_SamePath_l1 (x0 : List Int) (x1 : List Int) : Nat → Int → R ((Unit) ⊕ (Bool))
  | 0, _ => R.stuck
  | k + 1, x13_28 => if x13_28 < (List.length x0 : Int) then (if 0 ≤ x13_28 ∧ x13_28 < (List.length x0 : Int) then (if 0 ≤ x13_28 ∧ x13_28 < (List.length x1 : Int) then (if (gt x0 x13_28) = (gt x1 x13_28) then (glossaryref13_SamePath_l1 x0 x1 k (IntKind.wrap .i64 (x13_28 + 1))) else (R.ok (.inr false))) else R.stuck) else R.stuck) else (R.ok (.inl ()))
def glossaryref13_SamePath (x0 : List Int) (x1 : List Int) : R (Bool) :=
  if (List.length x0 : Int) = (List.length x1 : Int) then ((glossaryref13_SamePath_l1 x0 x1 Many 0).bind fun | (.inl _) => glossaryref13_SamePath_j0 | (.inr rp54) => R.ok rp54) else (R.ok false)
theorem glossaryref13_SamePath_call {h : H} {x0 : List Int} {x1 : List Int} {Q : Out → H → Prop} {KK : (Bool) → Prop} {X : V → Prop} (hq : (glossaryref13_SamePath x0 x1).post KK X) (hK : ∀ r, KK r → Q (.ret (.bool r)) h) (hX : ∀ v, X v → V.Cl 0 v ∧ Q (.panic v) h) : CA qprim 10 [.sl 1 (List.map (V.int .i64) x0), .sl 1 (List.map (V.int .i64) x1)] h Q := by
  refine acalln hp Tryz.func10 rfl (by kernel_rfl) (n := 26) rfl (rs := [.tmp 4]) rfl [0, 1, 4, 5, 10, 12, 13, 14, 24] [] false (by simp) ?_
  unfold glossaryref13_SamePath at hq
  simp only [initEnv, List.map_cons, List.map_nil, List.getD_cons_zero, List.getD_cons_succ, List.getD_nil, V.demote]
  rw [wp_seq]
  refine wp_region_i (by rfl) ?_
  simp only [RC, RL, RM, ↓evs_eq, loadN, V.slz, V.slz1, lnB, V.left, V.lenOf, slice3, sliceNil, Option.getD_none, Option.getD_some, sliceOp, cut, upon_each, nextM, entryOp, buildOk, lookup, lookV, update, elemOf, Option.isSome_map, unOp, wanted, aop, tkB, neD, Env.get, Env.put, Env.keep, putD, dstOk, ev, constV, nilSlice, V.demote, V.toOwn, V.cells, ty, R1.res, binOp, isShift, binOpT, isC, intOp, strOp, shiftOp, byteV, index, indexAddr, slice, bounds, hiB, loB, withB, maxV, minV, evs, pickV, lenV, builtin, initEnv, convert, K.isU8, strOf, load, store, fieldOf, append, appT, fltOp, cpxV, realV, imagV, toInt, rangeOp, nextOp, room, fill, placeOf, splice, repl, chunks, Ty.val, Ty.agg, V.plain, H.row, H.ety, AObj.row, Nat.reduceAdd, ↓reduceIte, Nat.reduceEqDiff, Nat.reduceBEq, Nat.reduceBNe, Nat.reduceLT, Int.reduceToNat, Int.reduceEq, Int.reduceLT, Int.reduceLE, reduceCtorEq, Nat.reduceMul, Nat.reduceLeDiff, S_api_Location.enc]
  rw [wp_seq]
  rw [wp_seq]
  refine wp_region_i (by rfl) ?_
  simp only [RC, RL, RM, ↓evs_eq, loadN, V.slz, V.slz1, lnB, V.left, V.lenOf, slice3, sliceNil, Option.getD_none, Option.getD_some, sliceOp, cut, upon_each, nextM, entryOp, buildOk, lookup, lookV, update, elemOf, Option.isSome_map, unOp, wanted, aop, tkB, neD, Env.get, Env.put, Env.keep, putD, dstOk, ev, constV, nilSlice, V.demote, V.toOwn, V.cells, ty, R1.res, binOp, isShift, binOpT, isC, intOp, strOp, shiftOp, byteV, index, indexAddr, slice, bounds, hiB, loB, withB, maxV, minV, evs, pickV, lenV, builtin, initEnv, convert, K.isU8, strOf, load, store, fieldOf, append, appT, fltOp, cpxV, realV, imagV, toInt, rangeOp, nextOp, room, fill, placeOf, splice, repl, chunks, Ty.val, Ty.agg, V.plain, H.row, H.ety, AObj.row, Nat.reduceAdd, ↓reduceIte, Nat.reduceEqDiff, Nat.reduceBEq, Nat.reduceBNe, Nat.reduceLT, Int.reduceToNat, Int.reduceEq, Int.reduceLT, Int.reduceLE, reduceCtorEq, Nat.reduceMul, Nat.reduceLeDiff, S_api_Location.enc]
  rw [wp_cond]
  simp only [RC, RL, RM, ↓evs_eq, loadN, V.slz, V.slz1, lnB, V.left, V.lenOf, slice3, sliceNil, Option.getD_none, Option.getD_some, sliceOp, cut, upon_each, nextM, entryOp, buildOk, lookup, lookV, update, elemOf, Option.isSome_map, unOp, wanted, aop, tkB, neD, Env.get, Env.put, Env.keep, putD, dstOk, ev, constV, nilSlice, V.demote, V.toOwn, V.cells, ty, R1.res, binOp, isShift, binOpT, isC, intOp, strOp, shiftOp, byteV, index, indexAddr, slice, bounds, hiB, loB, withB, maxV, minV, evs, pickV, lenV, builtin, initEnv, convert, K.isU8, strOf, load, store, fieldOf, append, appT, fltOp, cpxV, realV, imagV, toInt, rangeOp, nextOp, room, fill, placeOf, splice, repl, chunks, Ty.val, Ty.agg, V.plain, H.row, H.ety, AObj.row, Nat.reduceAdd, ↓reduceIte, Nat.reduceEqDiff, Nat.reduceBEq, Nat.reduceBNe, Nat.reduceLT, Int.reduceToNat, Int.reduceEq, Int.reduceLT, Int.reduceLE, reduceCtorEq, Nat.reduceMul, Nat.reduceLeDiff, S_api_Location.enc]
  by_cases hc2 : (List.length x0 : Int) = (List.length x1 : Int)
  · replace hq := (R.post_if hq).1 hc2
    refine condK_f (congrArg (fun b => V.bool (!b)) (decide_eq_true hc2)) ?_
    try simp only [wp_skip, RC]
    refine Wk.same ?_
    try simp only [RC]
    refine seq_gen (acall_mono hp) (σ := V × V × V × V × V × V) (fun s => [(0, .sl 1 (List.map (V.int .i64) x0)), (1, .sl 1 (List.map (V.int .i64) x1)), (4, s.1), (5, s.2.1), (10, .bool (!(decide ((List.length x0 : Int) = (List.length x1 : Int))))), (12, s.2.2.1), (13, s.2.2.2.1), (14, s.2.2.2.2.1), (24, s.2.2.2.2.2)]) (fun s => h) (fun s => (glossaryref13_SamePath_j0).post KK X) (fun s hq => ?_) (fun N hN27 => ?_)
    · obtain ⟨y4_26, y5_26, y12_26, y13_26, y14_26, y24_26⟩ := s
      try dsimp only at hq ⊢
      unfold glossaryref13_SamePath_j0 at hq
      rw [wp_seq]
      refine wp_region_i (by rfl) ?_
      simp only [RC, RL, RM, ↓evs_eq, loadN, V.slz, V.slz1, lnB, V.left, V.lenOf, slice3, sliceNil, Option.getD_none, Option.getD_some, sliceOp, cut, upon_each, nextM, entryOp, buildOk, lookup, lookV, update, elemOf, Option.isSome_map, unOp, wanted, aop, tkB, neD, Env.get, Env.put, Env.keep, putD, dstOk, ev, constV, nilSlice, V.demote, V.toOwn, V.cells, ty, R1.res, binOp, isShift, binOpT, isC, intOp, strOp, shiftOp, byteV, index, indexAddr, slice, bounds, hiB, loB, withB, maxV, minV, evs, pickV, lenV, builtin, initEnv, convert, K.isU8, strOf, load, store, fieldOf, append, appT, fltOp, cpxV, realV, imagV, toInt, rangeOp, nextOp, room, fill, placeOf, splice, repl, chunks, Ty.val, Ty.agg, V.plain, H.row, H.ety, AObj.row, Nat.reduceAdd, ↓reduceIte, Nat.reduceEqDiff, Nat.reduceBEq, Nat.reduceBNe, Nat.reduceLT, Int.reduceToNat, Int.reduceEq, Int.reduceLT, Int.reduceLE, reduceCtorEq, Nat.reduceMul, Nat.reduceLeDiff, S_api_Location.enc]
      rw [wp_ret]
      simp only [retQ, results, resultAll, resultOne, Nat.zero_add, scopeQ, RC, RL, RM, ↓evs_eq, loadN, V.slz, V.slz1, lnB, V.left, V.lenOf, slice3, sliceNil, Option.getD_none, Option.getD_some, sliceOp, cut, upon_each, nextM, entryOp, buildOk, lookup, lookV, update, elemOf, Option.isSome_map, unOp, wanted, aop, tkB, neD, Env.get, Env.put, Env.keep, putD, dstOk, ev, constV, nilSlice, V.demote, V.toOwn, V.cells, ty, R1.res, binOp, isShift, binOpT, isC, intOp, strOp, shiftOp, byteV, index, indexAddr, slice, bounds, hiB, loB, withB, maxV, minV, evs, pickV, lenV, builtin, initEnv, convert, K.isU8, strOf, load, store, fieldOf, append, appT, fltOp, cpxV, realV, imagV, toInt, rangeOp, nextOp, room, fill, placeOf, splice, repl, chunks, Ty.val, Ty.agg, V.plain, H.row, H.ety, AObj.row, Nat.reduceAdd, ↓reduceIte, Nat.reduceEqDiff, Nat.reduceBEq, Nat.reduceBNe, Nat.reduceLT, Int.reduceToNat, Int.reduceEq, Int.reduceLT, Int.reduceLE, reduceCtorEq, Nat.reduceMul, Nat.reduceLeDiff, S_api_Location.enc]
      refine ⟨_, (.refl _), ?_⟩
      exact hK _ hq
    · rw [wp_seq]
      refine wp_region_i (by rfl) ?_
      simp only [RC, RL, RM, ↓evs_eq, loadN, V.slz, V.slz1, lnB, V.left, V.lenOf, slice3, sliceNil, Option.getD_none, Option.getD_some, sliceOp, cut, upon_each, nextM, entryOp, buildOk, lookup, lookV, update, elemOf, Option.isSome_map, unOp, wanted, aop, tkB, neD, Env.get, Env.put, Env.keep, putD, dstOk, ev, constV, nilSlice, V.demote, V.toOwn, V.cells, ty, R1.res, binOp, isShift, binOpT, isC, intOp, strOp, shiftOp, byteV, index, indexAddr, slice, bounds, hiB, loB, withB, maxV, minV, evs, pickV, lenV, builtin, initEnv, convert, K.isU8, strOf, load, store, fieldOf, append, appT, fltOp, cpxV, realV, imagV, toInt, rangeOp, nextOp, room, fill, placeOf, splice, repl, chunks, Ty.val, Ty.agg, V.plain, H.row, H.ety, AObj.row, Nat.reduceAdd, ↓reduceIte, Nat.reduceEqDiff, Nat.reduceBEq, Nat.reduceBNe, Nat.reduceLT, Int.reduceToNat, Int.reduceEq, Int.reduceLT, Int.reduceLE, reduceCtorEq, Nat.reduceMul, Nat.reduceLeDiff, S_api_Location.enc]
      rw [wp_block]
      refine loop_in ?_
      refine Wk.le (EnvLe.cons (.refl _) (EnvLe.cons (.refl _) (EnvLe.cons (.top _) (EnvLe.cons (.refl _) (EnvLe.cons (.refl _) (EnvLe.cons (.refl _) (EnvLe.cons (.refl _) (EnvLe.cons (.refl _) (EnvLe.cons (.refl _) EnvLe.nil))))))))) ?_
      obtain ⟨K39, hK40, hq⟩ := R.post_cut hq
      refine loop_gen (acall_mono hp) (σ := V × V × Int × V × V) (fun s => [(0, .sl 1 (List.map (V.int .i64) x0)), (1, .sl 1 (List.map (V.int .i64) x1)), (4, s.1), (5, s.2.1), (10, .bool (!(decide ((List.length x0 : Int) = (List.length x1 : Int))))), (12, .int .i64 (List.length x0 : Int)), (13, .int .i64 s.2.2.1), (14, s.2.2.2.1), (24, s.2.2.2.2)]) (fun s => h) (fun k s => (glossaryref13_SamePath_l1 x0 x1 k s.2.2.1).post K39 X) (fun s hs => hs) (fun k52 s hq N hN41 => ?_) _ (_, _, 0, _, _) hq
      obtain ⟨y4_28, y5_28, x13_28, y14_28, y24_28⟩ := s
      try dsimp only at hq ⊢
      rw [glossaryref13_SamePath_l1] at hq
      rw [wp_seq]
      refine wp_region_i (by rfl) ?_
      simp only [RC, RL, RM, ↓evs_eq, loadN, V.slz, V.slz1, lnB, V.left, V.lenOf, slice3, sliceNil, Option.getD_none, Option.getD_some, sliceOp, cut, upon_each, nextM, entryOp, buildOk, lookup, lookV, update, elemOf, Option.isSome_map, unOp, wanted, aop, tkB, neD, Env.get, Env.put, Env.keep, putD, dstOk, ev, constV, nilSlice, V.demote, V.toOwn, V.cells, ty, R1.res, binOp, isShift, binOpT, isC, intOp, strOp, shiftOp, byteV, index, indexAddr, slice, bounds, hiB, loB, withB, maxV, minV, evs, pickV, lenV, builtin, initEnv, convert, K.isU8, strOf, load, store, fieldOf, append, appT, fltOp, cpxV, realV, imagV, toInt, rangeOp, nextOp, room, fill, placeOf, splice, repl, chunks, Ty.val, Ty.agg, V.plain, H.row, H.ety, AObj.row, Nat.reduceAdd, ↓reduceIte, Nat.reduceEqDiff, Nat.reduceBEq, Nat.reduceBNe, Nat.reduceLT, Int.reduceToNat, Int.reduceEq, Int.reduceLT, Int.reduceLE, reduceCtorEq, Nat.reduceMul, Nat.reduceLeDiff, S_api_Location.enc]
      rw [wp_seq]
      rw [wp_cond]
      simp only [RC, RL, RM, ↓evs_eq, loadN, V.slz, V.slz1, lnB, V.left, V.lenOf, slice3, sliceNil, Option.getD_none, Option.getD_some, sliceOp, cut, upon_each, nextM, entryOp, buildOk, lookup, lookV, update, elemOf, Option.isSome_map, unOp, wanted, aop, tkB, neD, Env.get, Env.put, Env.keep, putD, dstOk, ev, constV, nilSlice, V.demote, V.toOwn, V.cells, ty, R1.res, binOp, isShift, binOpT, isC, intOp, strOp, shiftOp, byteV, index, indexAddr, slice, bounds, hiB, loB, withB, maxV, minV, evs, pickV, lenV, builtin, initEnv, convert, K.isU8, strOf, load, store, fieldOf, append, appT, fltOp, cpxV, realV, imagV, toInt, rangeOp, nextOp, room, fill, placeOf, splice, repl, chunks, Ty.val, Ty.agg, V.plain, H.row, H.ety, AObj.row, Nat.reduceAdd, ↓reduceIte, Nat.reduceEqDiff, Nat.reduceBEq, Nat.reduceBNe, Nat.reduceLT, Int.reduceToNat, Int.reduceEq, Int.reduceLT, Int.reduceLE, reduceCtorEq, Nat.reduceMul, Nat.reduceLeDiff, S_api_Location.enc]
      by_cases hc42 : x13_28 < (List.length x0 : Int)
      · replace hq := (R.post_if hq).1 hc42
        refine condK_t (congrArg V.bool (decide_eq_true hc42)) ?_
        try simp only [wp_skip, RC]
        refine Wk.same ?_
        try simp only [RC]
        rw [wp_seq]
        rw [wp_block]
        rw [wp_seq]
        refine wp_region_i (by rfl) ?_
        simp only [RC, RL, RM, ↓evs_eq, loadN, V.slz, V.slz1, lnB, V.left, V.lenOf, slice3, sliceNil, Option.getD_none, Option.getD_some, sliceOp, cut, upon_each, nextM, entryOp, buildOk, lookup, lookV, update, elemOf, Option.isSome_map, unOp, wanted, aop, tkB, neD, Env.get, Env.put, Env.keep, putD, dstOk, ev, constV, nilSlice, V.demote, V.toOwn, V.cells, ty, R1.res, binOp, isShift, binOpT, isC, intOp, strOp, shiftOp, byteV, index, indexAddr, slice, bounds, hiB, loB, withB, maxV, minV, evs, pickV, lenV, builtin, initEnv, convert, K.isU8, strOf, load, store, fieldOf, append, appT, fltOp, cpxV, realV, imagV, toInt, rangeOp, nextOp, room, fill, placeOf, splice, repl, chunks, Ty.val, Ty.agg, V.plain, H.row, H.ety, AObj.row, Nat.reduceAdd, ↓reduceIte, Nat.reduceEqDiff, Nat.reduceBEq, Nat.reduceBNe, Nat.reduceLT, Int.reduceToNat, Int.reduceEq, Int.reduceLT, Int.reduceLE, reduceCtorEq, Nat.reduceMul, Nat.reduceLeDiff, S_api_Location.enc]
        rw [wp_seq]
        refine wp_draw (acall_mono hp) (by kernel_rfl) (by rfl) ?_
        obtain ⟨g47, hq⟩ := R.guard hq
        obtain ⟨g49, hq⟩ := R.guard hq
        have e48 := map_gt (f := (V.int .i64)) (l := x0) (i := x13_28) g47
        have e50 := map_gt (f := (V.int .i64)) (l := x1) (i := x13_28) g49
        simp only [e48, e50, RC, RL, RM, ↓evs_eq, loadN, V.slz, V.slz1, lnB, V.left, V.lenOf, slice3, sliceNil, Option.getD_none, Option.getD_some, sliceOp, cut, upon_each, nextM, entryOp, buildOk, lookup, lookV, update, elemOf, Option.isSome_map, unOp, wanted, aop, tkB, neD, Env.get, Env.put, Env.keep, putD, dstOk, ev, constV, nilSlice, V.demote, V.toOwn, V.cells, ty, R1.res, binOp, isShift, binOpT, isC, intOp, strOp, shiftOp, byteV, index, indexAddr, slice, bounds, hiB, loB, withB, maxV, minV, evs, pickV, lenV, builtin, initEnv, convert, K.isU8, strOf, load, store, fieldOf, append, appT, fltOp, cpxV, realV, imagV, toInt, rangeOp, nextOp, room, fill, placeOf, splice, repl, chunks, Ty.val, Ty.agg, V.plain, H.row, H.ety, AObj.row, Nat.reduceAdd, ↓reduceIte, Nat.reduceEqDiff, Nat.reduceBEq, Nat.reduceBNe, Nat.reduceLT, Int.reduceToNat, Int.reduceEq, Int.reduceLT, Int.reduceLE, reduceCtorEq, Nat.reduceMul, Nat.reduceLeDiff, S_api_Location.enc]
        repeat (with_reducible refine And.intro (by first | omega | assumption) ?_)
        rw [wp_cond]
        simp only [RC, RL, RM, ↓evs_eq, loadN, V.slz, V.slz1, lnB, V.left, V.lenOf, slice3, sliceNil, Option.getD_none, Option.getD_some, sliceOp, cut, upon_each, nextM, entryOp, buildOk, lookup, lookV, update, elemOf, Option.isSome_map, unOp, wanted, aop, tkB, neD, Env.get, Env.put, Env.keep, putD, dstOk, ev, constV, nilSlice, V.demote, V.toOwn, V.cells, ty, R1.res, binOp, isShift, binOpT, isC, intOp, strOp, shiftOp, byteV, index, indexAddr, slice, bounds, hiB, loB, withB, maxV, minV, evs, pickV, lenV, builtin, initEnv, convert, K.isU8, strOf, load, store, fieldOf, append, appT, fltOp, cpxV, realV, imagV, toInt, rangeOp, nextOp, room, fill, placeOf, splice, repl, chunks, Ty.val, Ty.agg, V.plain, H.row, H.ety, AObj.row, Nat.reduceAdd, ↓reduceIte, Nat.reduceEqDiff, Nat.reduceBEq, Nat.reduceBNe, Nat.reduceLT, Int.reduceToNat, Int.reduceEq, Int.reduceLT, Int.reduceLE, reduceCtorEq, Nat.reduceMul, Nat.reduceLeDiff, S_api_Location.enc]
        by_cases hc51 : (gt x0 x13_28) = (gt x1 x13_28)
        · replace hq := (R.post_if hq).1 hc51
          refine condK_f (congrArg (fun b => V.bool (!b)) (decide_eq_true hc51)) ?_
          try simp only [wp_skip, RC]
          refine Wk.same ?_
          try simp only [RC]
          refine Wk.same ?_
          try simp only [RC]
          refine wp_region_i (by rfl) ?_
          simp only [RC, RL, RM, ↓evs_eq, loadN, V.slz, V.slz1, lnB, V.left, V.lenOf, slice3, sliceNil, Option.getD_none, Option.getD_some, sliceOp, cut, upon_each, nextM, entryOp, buildOk, lookup, lookV, update, elemOf, Option.isSome_map, unOp, wanted, aop, tkB, neD, Env.get, Env.put, Env.keep, putD, dstOk, ev, constV, nilSlice, V.demote, V.toOwn, V.cells, ty, R1.res, binOp, isShift, binOpT, isC, intOp, strOp, shiftOp, byteV, index, indexAddr, slice, bounds, hiB, loB, withB, maxV, minV, evs, pickV, lenV, builtin, initEnv, convert, K.isU8, strOf, load, store, fieldOf, append, appT, fltOp, cpxV, realV, imagV, toInt, rangeOp, nextOp, room, fill, placeOf, splice, repl, chunks, Ty.val, Ty.agg, V.plain, H.row, H.ety, AObj.row, Nat.reduceAdd, ↓reduceIte, Nat.reduceEqDiff, Nat.reduceBEq, Nat.reduceBNe, Nat.reduceLT, Int.reduceToNat, Int.reduceEq, Int.reduceLT, Int.reduceLE, reduceCtorEq, Nat.reduceMul, Nat.reduceLeDiff, S_api_Location.enc]
          refine Wk.le (EnvLe.cons (.refl _) (EnvLe.cons (.refl _) (EnvLe.cons (.refl _) (EnvLe.cons (.top _) (EnvLe.cons (.refl _) (EnvLe.cons (.refl _) (EnvLe.cons (.refl _) (EnvLe.cons (.top _) (EnvLe.cons (.top _) EnvLe.nil))))))))) ?_
          exact hN41 (_, _, (IntKind.wrap .i64 (x13_28 + 1)), _, _) hq
        · replace hq := (R.post_if hq).2 hc51
          refine condK_t (congrArg (fun b => V.bool (!b)) (decide_eq_false hc51)) ?_
          rw [wp_seq]
          refine wp_region_i (by rfl) ?_
          simp only [RC, RL, RM, ↓evs_eq, loadN, V.slz, V.slz1, lnB, V.left, V.lenOf, slice3, sliceNil, Option.getD_none, Option.getD_some, sliceOp, cut, upon_each, nextM, entryOp, buildOk, lookup, lookV, update, elemOf, Option.isSome_map, unOp, wanted, aop, tkB, neD, Env.get, Env.put, Env.keep, putD, dstOk, ev, constV, nilSlice, V.demote, V.toOwn, V.cells, ty, R1.res, binOp, isShift, binOpT, isC, intOp, strOp, shiftOp, byteV, index, indexAddr, slice, bounds, hiB, loB, withB, maxV, minV, evs, pickV, lenV, builtin, initEnv, convert, K.isU8, strOf, load, store, fieldOf, append, appT, fltOp, cpxV, realV, imagV, toInt, rangeOp, nextOp, room, fill, placeOf, splice, repl, chunks, Ty.val, Ty.agg, V.plain, H.row, H.ety, AObj.row, Nat.reduceAdd, ↓reduceIte, Nat.reduceEqDiff, Nat.reduceBEq, Nat.reduceBNe, Nat.reduceLT, Int.reduceToNat, Int.reduceEq, Int.reduceLT, Int.reduceLE, reduceCtorEq, Nat.reduceMul, Nat.reduceLeDiff, S_api_Location.enc]
          rw [wp_ret]
          simp only [retQ, results, resultAll, resultOne, Nat.zero_add, scopeQ, RC, RL, RM, ↓evs_eq, loadN, V.slz, V.slz1, lnB, V.left, V.lenOf, slice3, sliceNil, Option.getD_none, Option.getD_some, sliceOp, cut, upon_each, nextM, entryOp, buildOk, lookup, lookV, update, elemOf, Option.isSome_map, unOp, wanted, aop, tkB, neD, Env.get, Env.put, Env.keep, putD, dstOk, ev, constV, nilSlice, V.demote, V.toOwn, V.cells, ty, R1.res, binOp, isShift, binOpT, isC, intOp, strOp, shiftOp, byteV, index, indexAddr, slice, bounds, hiB, loB, withB, maxV, minV, evs, pickV, lenV, builtin, initEnv, convert, K.isU8, strOf, load, store, fieldOf, append, appT, fltOp, cpxV, realV, imagV, toInt, rangeOp, nextOp, room, fill, placeOf, splice, repl, chunks, Ty.val, Ty.agg, V.plain, H.row, H.ety, AObj.row, Nat.reduceAdd, ↓reduceIte, Nat.reduceEqDiff, Nat.reduceBEq, Nat.reduceBNe, Nat.reduceLT, Int.reduceToNat, Int.reduceEq, Int.reduceLT, Int.reduceLE, reduceCtorEq, Nat.reduceMul, Nat.reduceLeDiff, S_api_Location.enc]
          refine ⟨_, (.refl _), ?_⟩
          replace hq := hK40 _ hq
          exact hK _ hq
      · replace hq := (R.post_if hq).2 hc42
        refine condK_f (congrArg V.bool (decide_eq_false hc42)) ?_
        rw [wp_exit]
        try simp only [↓reduceIte, Nat.reduceEqDiff, reduceCtorEq, if_false, if_true, eq_self, Nat.succ_ne_self, RC]
        replace hq := hK40 _ hq
        try dsimp only at hq
        refine Wk.le (EnvLe.cons (.refl _) (EnvLe.cons (.refl _) (EnvLe.cons (.refl _) (EnvLe.cons (.refl _) (EnvLe.cons (.refl _) (EnvLe.cons (.top _) (EnvLe.cons (.top _) (EnvLe.cons (.top _) (EnvLe.cons (.refl _) EnvLe.nil))))))))) ?_
        try simp only [RC]
        exact hN27 (_, _, _, _, _, _) hq
  · replace hq := (R.post_if hq).2 hc2
    refine condK_t (congrArg (fun b => V.bool (!b)) (decide_eq_false hc2)) ?_
    rw [wp_seq]
    refine wp_region_i (by rfl) ?_
    simp only [RC, RL, RM, ↓evs_eq, loadN, V.slz, V.slz1, lnB, V.left, V.lenOf, slice3, sliceNil, Option.getD_none, Option.getD_some, sliceOp, cut, upon_each, nextM, entryOp, buildOk, lookup, lookV, update, elemOf, Option.isSome_map, unOp, wanted, aop, tkB, neD, Env.get, Env.put, Env.keep, putD, dstOk, ev, constV, nilSlice, V.demote, V.toOwn, V.cells, ty, R1.res, binOp, isShift, binOpT, isC, intOp, strOp, shiftOp, byteV, index, indexAddr, slice, bounds, hiB, loB, withB, maxV, minV, evs, pickV, lenV, builtin, initEnv, convert, K.isU8, strOf, load, store, fieldOf, append, appT, fltOp, cpxV, realV, imagV, toInt, rangeOp, nextOp, room, fill, placeOf, splice, repl, chunks, Ty.val, Ty.agg, V.plain, H.row, H.ety, AObj.row, Nat.reduceAdd, ↓reduceIte, Nat.reduceEqDiff, Nat.reduceBEq, Nat.reduceBNe, Nat.reduceLT, Int.reduceToNat, Int.reduceEq, Int.reduceLT, Int.reduceLE, reduceCtorEq, Nat.reduceMul, Nat.reduceLeDiff, S_api_Location.enc]
    rw [wp_ret]
    simp only [retQ, results, resultAll, resultOne, Nat.zero_add, scopeQ, RC, RL, RM, ↓evs_eq, loadN, V.slz, V.slz1, lnB, V.left, V.lenOf, slice3, sliceNil, Option.getD_none, Option.getD_some, sliceOp, cut, upon_each, nextM, entryOp, buildOk, lookup, lookV, update, elemOf, Option.isSome_map, unOp, wanted, aop, tkB, neD, Env.get, Env.put, Env.keep, putD, dstOk, ev, constV, nilSlice, V.demote, V.toOwn, V.cells, ty, R1.res, binOp, isShift, binOpT, isC, intOp, strOp, shiftOp, byteV, index, indexAddr, slice, bounds, hiB, loB, withB, maxV, minV, evs, pickV, lenV, builtin, initEnv, convert, K.isU8, strOf, load, store, fieldOf, append, appT, fltOp, cpxV, realV, imagV, toInt, rangeOp, nextOp, room, fill, placeOf, splice, repl, chunks, Ty.val, Ty.agg, V.plain, H.row, H.ety, AObj.row, Nat.reduceAdd, ↓reduceIte, Nat.reduceEqDiff, Nat.reduceBEq, Nat.reduceBNe, Nat.reduceLT, Int.reduceToNat, Int.reduceEq, Int.reduceLT, Int.reduceLE, reduceCtorEq, Nat.reduceMul, Nat.reduceLeDiff, S_api_Location.enc]
    refine ⟨_, (.refl _), ?_⟩
    exact hK _ hq

def glossaryref23_Docs_j0 : R ((List UInt8)) :=
  R.ok []
def glossaryref23_Docs_l1 (x0 : List S_api_Location) (x1 : List Int) : Nat → Int → R ((Unit) ⊕ ((List UInt8)))
  | 0, _ => R.stuck
  | k + 1, x9_68 => if x9_68 < (List.length x0 : Int) then (if 0 ≤ x9_68 ∧ x9_68 < (List.length x0 : Int) then ((glossaryref13_SamePath ((gt x0 x9_68).Path) x1).bind fun r92 => if r92 = true then (R.ok (.inr ((gt x0 x9_68).Doc))) else (glossaryref23_Docs_l1 x0 x1 k (IntKind.wrap .i64 (x9_68 + 1)))) else R.stuck) else (R.ok (.inl ()))
def glossaryref23_Docs (x0 : List S_api_Location) (x1 : List Int) : R ((List UInt8)) :=
  (glossaryref23_Docs_l1 x0 x1 Many 0).bind fun | (.inl _) => glossaryref23_Docs_j0 | (.inr rp98) => R.ok rp98
theorem glossaryref23_Docs_call {h : H} {x0 : List S_api_Location} {x1 : List Int} {Q : Out → H → Prop} {KK : ((List UInt8)) → Prop} {X : V → Prop} (hq : (glossaryref23_Docs x0 x1).post KK X) (hK : ∀ r, KK r → Q (.ret (.str r)) h) (hX : ∀ v, X v → V.Cl 0 v ∧ Q (.panic v) h) : CA qprim 6 [.sl 4 (List.map S_api_Location.enc x0), .sl 1 (List.map (V.int .i64) x1)] h Q := by
  refine acalln hp Tryz.func6 rfl (by kernel_rfl) (n := 20) rfl (rs := [.tmp 4]) rfl [0, 1, 4, 6, 7, 8, 9, 10, 16] [] true (by simp) ?_
  unfold glossaryref23_Docs at hq
  simp only [initEnv, List.map_cons, List.map_nil, List.getD_cons_zero, List.getD_cons_succ, List.getD_nil, V.demote]
  rw [wp_seq]
  refine wp_region_i (by rfl) ?_
  simp only [RC, RL, RM, ↓evs_eq, loadN, V.slz, V.slz1, lnB, V.left, V.lenOf, slice3, sliceNil, Option.getD_none, Option.getD_some, sliceOp, cut, upon_each, nextM, entryOp, buildOk, lookup, lookV, update, elemOf, Option.isSome_map, unOp, wanted, aop, tkB, neD, Env.get, Env.put, Env.keep, putD, dstOk, ev, constV, nilSlice, V.demote, V.toOwn, V.cells, ty, R1.res, binOp, isShift, binOpT, isC, intOp, strOp, shiftOp, byteV, index, indexAddr, slice, bounds, hiB, loB, withB, maxV, minV, evs, pickV, lenV, builtin, initEnv, convert, K.isU8, strOf, load, store, fieldOf, append, appT, fltOp, cpxV, realV, imagV, toInt, rangeOp, nextOp, room, fill, placeOf, splice, repl, chunks, Ty.val, Ty.agg, V.plain, H.row, H.ety, AObj.row, Nat.reduceAdd, ↓reduceIte, Nat.reduceEqDiff, Nat.reduceBEq, Nat.reduceBNe, Nat.reduceLT, Int.reduceToNat, Int.reduceEq, Int.reduceLT, Int.reduceLE, reduceCtorEq, Nat.reduceMul, Nat.reduceLeDiff, S_api_Location.enc]
  refine seq_gen (acall_mono hp) (σ := V × V × V × V × V × V × V × V) (fun s => [(0, s.1), (1, .sl 1 (List.map (V.int .i64) x1)), (4, s.2.1), (6, s.2.2.1), (7, s.2.2.2.1), (8, s.2.2.2.2.1), (9, s.2.2.2.2.2.1), (10, s.2.2.2.2.2.2.1), (16, s.2.2.2.2.2.2.2)]) (fun s => h) (fun s => (glossaryref23_Docs_j0).post KK X) (fun s hq => ?_) (fun N hN54 => ?_)
  · obtain ⟨y0_53, y4_53, y6_53, y7_53, y8_53, y9_53, y10_53, y16_53⟩ := s
    try dsimp only at hq ⊢
    unfold glossaryref23_Docs_j0 at hq
    rw [wp_seq]
    refine wp_region_i (by rfl) ?_
    simp only [RC, RL, RM, ↓evs_eq, loadN, V.slz, V.slz1, lnB, V.left, V.lenOf, slice3, sliceNil, Option.getD_none, Option.getD_some, sliceOp, cut, upon_each, nextM, entryOp, buildOk, lookup, lookV, update, elemOf, Option.isSome_map, unOp, wanted, aop, tkB, neD, Env.get, Env.put, Env.keep, putD, dstOk, ev, constV, nilSlice, V.demote, V.toOwn, V.cells, ty, R1.res, binOp, isShift, binOpT, isC, intOp, strOp, shiftOp, byteV, index, indexAddr, slice, bounds, hiB, loB, withB, maxV, minV, evs, pickV, lenV, builtin, initEnv, convert, K.isU8, strOf, load, store, fieldOf, append, appT, fltOp, cpxV, realV, imagV, toInt, rangeOp, nextOp, room, fill, placeOf, splice, repl, chunks, Ty.val, Ty.agg, V.plain, H.row, H.ety, AObj.row, Nat.reduceAdd, ↓reduceIte, Nat.reduceEqDiff, Nat.reduceBEq, Nat.reduceBNe, Nat.reduceLT, Int.reduceToNat, Int.reduceEq, Int.reduceLT, Int.reduceLE, reduceCtorEq, Nat.reduceMul, Nat.reduceLeDiff, S_api_Location.enc]
    rw [wp_ret]
    simp only [retQ, results, resultAll, resultOne, Nat.zero_add, scopeQ, RC, RL, RM, ↓evs_eq, loadN, V.slz, V.slz1, lnB, V.left, V.lenOf, slice3, sliceNil, Option.getD_none, Option.getD_some, sliceOp, cut, upon_each, nextM, entryOp, buildOk, lookup, lookV, update, elemOf, Option.isSome_map, unOp, wanted, aop, tkB, neD, Env.get, Env.put, Env.keep, putD, dstOk, ev, constV, nilSlice, V.demote, V.toOwn, V.cells, ty, R1.res, binOp, isShift, binOpT, isC, intOp, strOp, shiftOp, byteV, index, indexAddr, slice, bounds, hiB, loB, withB, maxV, minV, evs, pickV, lenV, builtin, initEnv, convert, K.isU8, strOf, load, store, fieldOf, append, appT, fltOp, cpxV, realV, imagV, toInt, rangeOp, nextOp, room, fill, placeOf, splice, repl, chunks, Ty.val, Ty.agg, V.plain, H.row, H.ety, AObj.row, Nat.reduceAdd, ↓reduceIte, Nat.reduceEqDiff, Nat.reduceBEq, Nat.reduceBNe, Nat.reduceLT, Int.reduceToNat, Int.reduceEq, Int.reduceLT, Int.reduceLE, reduceCtorEq, Nat.reduceMul, Nat.reduceLeDiff, S_api_Location.enc]
    refine ⟨_, (.refl _), ?_⟩
    refine leave_ok0 rfl (.str _) ?_
    exact hK _ hq
  · rw [wp_seq]
    refine wp_region_i (by rfl) ?_
    simp only [RC, RL, RM, ↓evs_eq, loadN, V.slz, V.slz1, lnB, V.left, V.lenOf, slice3, sliceNil, Option.getD_none, Option.getD_some, sliceOp, cut, upon_each, nextM, entryOp, buildOk, lookup, lookV, update, elemOf, Option.isSome_map, unOp, wanted, aop, tkB, neD, Env.get, Env.put, Env.keep, putD, dstOk, ev, constV, nilSlice, V.demote, V.toOwn, V.cells, ty, R1.res, binOp, isShift, binOpT, isC, intOp, strOp, shiftOp, byteV, index, indexAddr, slice, bounds, hiB, loB, withB, maxV, minV, evs, pickV, lenV, builtin, initEnv, convert, K.isU8, strOf, load, store, fieldOf, append, appT, fltOp, cpxV, realV, imagV, toInt, rangeOp, nextOp, room, fill, placeOf, splice, repl, chunks, Ty.val, Ty.agg, V.plain, H.row, H.ety, AObj.row, Nat.reduceAdd, ↓reduceIte, Nat.reduceEqDiff, Nat.reduceBEq, Nat.reduceBNe, Nat.reduceLT, Int.reduceToNat, Int.reduceEq, Int.reduceLT, Int.reduceLE, reduceCtorEq, Nat.reduceMul, Nat.reduceLeDiff, S_api_Location.enc]
    rw [wp_block]
    refine loop_in ?_
    refine Wk.le (EnvLe.cons (.top _) (EnvLe.cons (.refl _) (EnvLe.cons (.top _) (EnvLe.cons (.refl _) (EnvLe.cons (.refl _) (EnvLe.cons (.refl _) (EnvLe.cons (.refl _) (EnvLe.cons (.refl _) (EnvLe.cons (.refl _) EnvLe.nil))))))))) ?_
    obtain ⟨K81, hK82, hq⟩ := R.post_cut hq
    refine loop_gen (acall_mono hp) (σ := V × V × V × Int × V × V) (fun s => [(0, s.1), (1, .sl 1 (List.map (V.int .i64) x1)), (4, s.2.1), (6, s.2.2.1), (7, .sl 4 (List.map S_api_Location.enc x0)), (8, .int .i64 (List.length x0 : Int)), (9, .int .i64 s.2.2.2.1), (10, s.2.2.2.2.1), (16, s.2.2.2.2.2)]) (fun s => h) (fun k s => (glossaryref23_Docs_l1 x0 x1 k s.2.2.2.1).post K81 X) (fun s hs => hs) (fun k96 s hq N hN83 => ?_) _ (_, _, _, 0, _, _) hq
    obtain ⟨y0_68, y4_68, y6_68, x9_68, y10_68, y16_68⟩ := s
    try dsimp only at hq ⊢
    rw [glossaryref23_Docs_l1] at hq
    rw [wp_seq]
    refine wp_region_i (by rfl) ?_
    simp only [RC, RL, RM, ↓evs_eq, loadN, V.slz, V.slz1, lnB, V.left, V.lenOf, slice3, sliceNil, Option.getD_none, Option.getD_some, sliceOp, cut, upon_each, nextM, entryOp, buildOk, lookup, lookV, update, elemOf, Option.isSome_map, unOp, wanted, aop, tkB, neD, Env.get, Env.put, Env.keep, putD, dstOk, ev, constV, nilSlice, V.demote, V.toOwn, V.cells, ty, R1.res, binOp, isShift, binOpT, isC, intOp, strOp, shiftOp, byteV, index, indexAddr, slice, bounds, hiB, loB, withB, maxV, minV, evs, pickV, lenV, builtin, initEnv, convert, K.isU8, strOf, load, store, fieldOf, append, appT, fltOp, cpxV, realV, imagV, toInt, rangeOp, nextOp, room, fill, placeOf, splice, repl, chunks, Ty.val, Ty.agg, V.plain, H.row, H.ety, AObj.row, Nat.reduceAdd, ↓reduceIte, Nat.reduceEqDiff, Nat.reduceBEq, Nat.reduceBNe, Nat.reduceLT, Int.reduceToNat, Int.reduceEq, Int.reduceLT, Int.reduceLE, reduceCtorEq, Nat.reduceMul, Nat.reduceLeDiff, S_api_Location.enc]
    rw [wp_seq]
    rw [wp_cond]
    simp only [RC, RL, RM, ↓evs_eq, loadN, V.slz, V.slz1, lnB, V.left, V.lenOf, slice3, sliceNil, Option.getD_none, Option.getD_some, sliceOp, cut, upon_each, nextM, entryOp, buildOk, lookup, lookV, update, elemOf, Option.isSome_map, unOp, wanted, aop, tkB, neD, Env.get, Env.put, Env.keep, putD, dstOk, ev, constV, nilSlice, V.demote, V.toOwn, V.cells, ty, R1.res, binOp, isShift, binOpT, isC, intOp, strOp, shiftOp, byteV, index, indexAddr, slice, bounds, hiB, loB, withB, maxV, minV, evs, pickV, lenV, builtin, initEnv, convert, K.isU8, strOf, load, store, fieldOf, append, appT, fltOp, cpxV, realV, imagV, toInt, rangeOp, nextOp, room, fill, placeOf, splice, repl, chunks, Ty.val, Ty.agg, V.plain, H.row, H.ety, AObj.row, Nat.reduceAdd, ↓reduceIte, Nat.reduceEqDiff, Nat.reduceBEq, Nat.reduceBNe, Nat.reduceLT, Int.reduceToNat, Int.reduceEq, Int.reduceLT, Int.reduceLE, reduceCtorEq, Nat.reduceMul, Nat.reduceLeDiff, S_api_Location.enc]
    by_cases hc84 : x9_68 < (List.length x0 : Int)
    · replace hq := (R.post_if hq).1 hc84
      refine condK_t (congrArg V.bool (decide_eq_true hc84)) ?_
      try simp only [wp_skip, RC]
      refine Wk.same ?_
      try simp only [RC]
      rw [wp_seq]
      rw [wp_block]
      rw [wp_seq]
      refine wp_region_i (by rfl) ?_
      obtain ⟨g87, hq⟩ := R.guard hq
      have e88 := map_gt (f := S_api_Location.enc) (l := x0) (i := x9_68) g87
      simp only [e88, RC, RL, RM, ↓evs_eq, loadN, V.slz, V.slz1, lnB, V.left, V.lenOf, slice3, sliceNil, Option.getD_none, Option.getD_some, sliceOp, cut, upon_each, nextM, entryOp, buildOk, lookup, lookV, update, elemOf, Option.isSome_map, unOp, wanted, aop, tkB, neD, Env.get, Env.put, Env.keep, putD, dstOk, ev, constV, nilSlice, V.demote, V.toOwn, V.cells, ty, R1.res, binOp, isShift, binOpT, isC, intOp, strOp, shiftOp, byteV, index, indexAddr, slice, bounds, hiB, loB, withB, maxV, minV, evs, pickV, lenV, builtin, initEnv, convert, K.isU8, strOf, load, store, fieldOf, append, appT, fltOp, cpxV, realV, imagV, toInt, rangeOp, nextOp, room, fill, placeOf, splice, repl, chunks, Ty.val, Ty.agg, V.plain, H.row, H.ety, AObj.row, Nat.reduceAdd, ↓reduceIte, Nat.reduceEqDiff, Nat.reduceBEq, Nat.reduceBNe, Nat.reduceLT, Int.reduceToNat, Int.reduceEq, Int.reduceLT, Int.reduceLE, reduceCtorEq, Nat.reduceMul, Nat.reduceLeDiff, S_api_Location.enc]
      repeat (with_reducible refine And.intro (by first | omega | assumption) ?_)
      rw [wp_seq]
      refine wp_region_i (by rfl) ?_
      simp only [RC, RL, RM, ↓evs_eq, loadN, V.slz, V.slz1, lnB, V.left, V.lenOf, slice3, sliceNil, Option.getD_none, Option.getD_some, sliceOp, cut, upon_each, nextM, entryOp, buildOk, lookup, lookV, update, elemOf, Option.isSome_map, unOp, wanted, aop, tkB, neD, Env.get, Env.put, Env.keep, putD, dstOk, ev, constV, nilSlice, V.demote, V.toOwn, V.cells, ty, R1.res, binOp, isShift, binOpT, isC, intOp, strOp, shiftOp, byteV, index, indexAddr, slice, bounds, hiB, loB, withB, maxV, minV, evs, pickV, lenV, builtin, initEnv, convert, K.isU8, strOf, load, store, fieldOf, append, appT, fltOp, cpxV, realV, imagV, toInt, rangeOp, nextOp, room, fill, placeOf, splice, repl, chunks, Ty.val, Ty.agg, V.plain, H.row, H.ety, AObj.row, Nat.reduceAdd, ↓reduceIte, Nat.reduceEqDiff, Nat.reduceBEq, Nat.reduceBNe, Nat.reduceLT, Int.reduceToNat, Int.reduceEq, Int.reduceLT, Int.reduceLE, reduceCtorEq, Nat.reduceMul, Nat.reduceLeDiff, S_api_Location.enc]
      obtain ⟨K94, hK95, hq⟩ := R.post_cut hq
      refine glossaryref13_SamePath_call (x0 := (gt x0 x9_68).Path) (x1 := x1) hq (fun r92 hq => ?_) (fun v hv => ⟨(hX v hv).1, ?_⟩)
      · replace hq := hK95 _ hq
        simp only [RC, RL, RM, ↓evs_eq, loadN, V.slz, V.slz1, lnB, V.left, V.lenOf, slice3, sliceNil, Option.getD_none, Option.getD_some, sliceOp, cut, upon_each, nextM, entryOp, buildOk, lookup, lookV, update, elemOf, Option.isSome_map, unOp, wanted, aop, tkB, neD, Env.get, Env.put, Env.keep, putD, dstOk, ev, constV, nilSlice, V.demote, V.toOwn, V.cells, ty, R1.res, binOp, isShift, binOpT, isC, intOp, strOp, shiftOp, byteV, index, indexAddr, slice, bounds, hiB, loB, withB, maxV, minV, evs, pickV, lenV, builtin, initEnv, convert, K.isU8, strOf, load, store, fieldOf, append, appT, fltOp, cpxV, realV, imagV, toInt, rangeOp, nextOp, room, fill, placeOf, splice, repl, chunks, Ty.val, Ty.agg, V.plain, H.row, H.ety, AObj.row, Nat.reduceAdd, ↓reduceIte, Nat.reduceEqDiff, Nat.reduceBEq, Nat.reduceBNe, Nat.reduceLT, Int.reduceToNat, Int.reduceEq, Int.reduceLT, Int.reduceLE, reduceCtorEq, Nat.reduceMul, Nat.reduceLeDiff, S_api_Location.enc]
        rw [wp_cond]
        simp only [RC, RL, RM, ↓evs_eq, loadN, V.slz, V.slz1, lnB, V.left, V.lenOf, slice3, sliceNil, Option.getD_none, Option.getD_some, sliceOp, cut, upon_each, nextM, entryOp, buildOk, lookup, lookV, update, elemOf, Option.isSome_map, unOp, wanted, aop, tkB, neD, Env.get, Env.put, Env.keep, putD, dstOk, ev, constV, nilSlice, V.demote, V.toOwn, V.cells, ty, R1.res, binOp, isShift, binOpT, isC, intOp, strOp, shiftOp, byteV, index, indexAddr, slice, bounds, hiB, loB, withB, maxV, minV, evs, pickV, lenV, builtin, initEnv, convert, K.isU8, strOf, load, store, fieldOf, append, appT, fltOp, cpxV, realV, imagV, toInt, rangeOp, nextOp, room, fill, placeOf, splice, repl, chunks, Ty.val, Ty.agg, V.plain, H.row, H.ety, AObj.row, Nat.reduceAdd, ↓reduceIte, Nat.reduceEqDiff, Nat.reduceBEq, Nat.reduceBNe, Nat.reduceLT, Int.reduceToNat, Int.reduceEq, Int.reduceLT, Int.reduceLE, reduceCtorEq, Nat.reduceMul, Nat.reduceLeDiff, S_api_Location.enc]
        by_cases hc93 : r92 = true
        · replace hq := (R.post_if hq).1 hc93
          refine condK_t (congrArg V.bool (hc93)) ?_
          rw [wp_seq]
          refine wp_region_i (by rfl) ?_
          simp only [RC, RL, RM, ↓evs_eq, loadN, V.slz, V.slz1, lnB, V.left, V.lenOf, slice3, sliceNil, Option.getD_none, Option.getD_some, sliceOp, cut, upon_each, nextM, entryOp, buildOk, lookup, lookV, update, elemOf, Option.isSome_map, unOp, wanted, aop, tkB, neD, Env.get, Env.put, Env.keep, putD, dstOk, ev, constV, nilSlice, V.demote, V.toOwn, V.cells, ty, R1.res, binOp, isShift, binOpT, isC, intOp, strOp, shiftOp, byteV, index, indexAddr, slice, bounds, hiB, loB, withB, maxV, minV, evs, pickV, lenV, builtin, initEnv, convert, K.isU8, strOf, load, store, fieldOf, append, appT, fltOp, cpxV, realV, imagV, toInt, rangeOp, nextOp, room, fill, placeOf, splice, repl, chunks, Ty.val, Ty.agg, V.plain, H.row, H.ety, AObj.row, Nat.reduceAdd, ↓reduceIte, Nat.reduceEqDiff, Nat.reduceBEq, Nat.reduceBNe, Nat.reduceLT, Int.reduceToNat, Int.reduceEq, Int.reduceLT, Int.reduceLE, reduceCtorEq, Nat.reduceMul, Nat.reduceLeDiff, S_api_Location.enc]
          rw [wp_ret]
          simp only [retQ, results, resultAll, resultOne, Nat.zero_add, scopeQ, RC, RL, RM, ↓evs_eq, loadN, V.slz, V.slz1, lnB, V.left, V.lenOf, slice3, sliceNil, Option.getD_none, Option.getD_some, sliceOp, cut, upon_each, nextM, entryOp, buildOk, lookup, lookV, update, elemOf, Option.isSome_map, unOp, wanted, aop, tkB, neD, Env.get, Env.put, Env.keep, putD, dstOk, ev, constV, nilSlice, V.demote, V.toOwn, V.cells, ty, R1.res, binOp, isShift, binOpT, isC, intOp, strOp, shiftOp, byteV, index, indexAddr, slice, bounds, hiB, loB, withB, maxV, minV, evs, pickV, lenV, builtin, initEnv, convert, K.isU8, strOf, load, store, fieldOf, append, appT, fltOp, cpxV, realV, imagV, toInt, rangeOp, nextOp, room, fill, placeOf, splice, repl, chunks, Ty.val, Ty.agg, V.plain, H.row, H.ety, AObj.row, Nat.reduceAdd, ↓reduceIte, Nat.reduceEqDiff, Nat.reduceBEq, Nat.reduceBNe, Nat.reduceLT, Int.reduceToNat, Int.reduceEq, Int.reduceLT, Int.reduceLE, reduceCtorEq, Nat.reduceMul, Nat.reduceLeDiff, S_api_Location.enc]
          refine ⟨_, (.refl _), ?_⟩
          refine leave_ok rfl (.str _) ?_
          replace hq := hK82 _ hq
          exact hK _ hq
        · replace hq := (R.post_if hq).2 hc93
          replace hc93 := eq_false_of_ne_true hc93
          refine condK_f (congrArg V.bool (hc93)) ?_
          try simp only [wp_skip, RC]
          refine Wk.same ?_
          try simp only [RC]
          refine Wk.drop0 (by rfl) (EnvLe.cons (.top _) (EnvLe.cons (.refl _) (EnvLe.cons (.top _) (EnvLe.cons (.top _) (EnvLe.cons (.refl _) (EnvLe.cons (.refl _) (EnvLe.cons (.refl _) (EnvLe.cons (.top _) (EnvLe.cons (.top _) EnvLe.nil))))))))) (EnvCl.cons .top (EnvCl.cons (.sl _ _ (cl_map (fun x => .int _ _))) (EnvCl.cons .top (EnvCl.cons .top (EnvCl.cons (.sl _ _ (cl_map (S_api_Location.cl _))) (EnvCl.cons (.int _ _) (EnvCl.cons (.int _ _) (EnvCl.cons .top (EnvCl.cons .top (EnvCl.nil _)))))))))) ?_
          try simp only [RC]
          refine wp_region_i (by rfl) ?_
          simp only [RC, RL, RM, ↓evs_eq, loadN, V.slz, V.slz1, lnB, V.left, V.lenOf, slice3, sliceNil, Option.getD_none, Option.getD_some, sliceOp, cut, upon_each, nextM, entryOp, buildOk, lookup, lookV, update, elemOf, Option.isSome_map, unOp, wanted, aop, tkB, neD, Env.get, Env.put, Env.keep, putD, dstOk, ev, constV, nilSlice, V.demote, V.toOwn, V.cells, ty, R1.res, binOp, isShift, binOpT, isC, intOp, strOp, shiftOp, byteV, index, indexAddr, slice, bounds, hiB, loB, withB, maxV, minV, evs, pickV, lenV, builtin, initEnv, convert, K.isU8, strOf, load, store, fieldOf, append, appT, fltOp, cpxV, realV, imagV, toInt, rangeOp, nextOp, room, fill, placeOf, splice, repl, chunks, Ty.val, Ty.agg, V.plain, H.row, H.ety, AObj.row, Nat.reduceAdd, ↓reduceIte, Nat.reduceEqDiff, Nat.reduceBEq, Nat.reduceBNe, Nat.reduceLT, Int.reduceToNat, Int.reduceEq, Int.reduceLT, Int.reduceLE, reduceCtorEq, Nat.reduceMul, Nat.reduceLeDiff, S_api_Location.enc]
          refine Wk.same ?_
          exact hN83 (_, _, _, (IntKind.wrap .i64 (x9_68 + 1)), _, _) hq
      · simp only [RC, scopeQ, retQ, ↓reduceIte, Bool.false_eq_true]
        exact leaveP_ok ((hX _ hv).1.mono (Nat.zero_le _)) (hX _ hv).2
    · replace hq := (R.post_if hq).2 hc84
      refine condK_f (congrArg V.bool (decide_eq_false hc84)) ?_
      rw [wp_exit]
      try simp only [↓reduceIte, Nat.reduceEqDiff, reduceCtorEq, if_false, if_true, eq_self, Nat.succ_ne_self, RC]
      replace hq := hK82 _ hq
      try dsimp only at hq
      refine Wk.le (EnvLe.cons (.refl _) (EnvLe.cons (.refl _) (EnvLe.cons (.refl _) (EnvLe.cons (.refl _) (EnvLe.cons (.top _) (EnvLe.cons (.top _) (EnvLe.cons (.top _) (EnvLe.cons (.top _) (EnvLe.cons (.refl _) EnvLe.nil))))))))) ?_
      try simp only [RC]
      exact hN54 (_, _, _, _, _, _, _, _) hq
end Go.Proofs.YtpdifmlbhkimlaaGreatDoor.Pv
