/- Functions of the program, as plain Lean functions, and that the code comes to them: printed by gen.py. -/
import Derived.Test.YtmaabgkgjknhpaaG0
set_option linter.unusedVariables false
set_option linter.unusedSimpArgs false
set_option maxHeartbeats 4000000
set_option maxRecDepth 10000
namespace Go.Proofs.Ytmaabgkgjknhpaa.Pv
open Go Go.Proofs

def graph_Order_1 (x0 : S_api_Unit) : R (Bool) :=
  R.ok (decide ((1000 : Int) < (List.length x0.Deps : Int)))
theorem graph_Order_1_call {h : H} {x0 : S_api_Unit} {Q : Out → H → Prop} {KK : (Bool) → Prop} {X : V → Prop} (hq : (graph_Order_1 x0).post KK X) (hK : ∀ r, KK r → Q (.ret (.bool r)) h) (hX : ∀ v, X v → V.Cl 0 v ∧ Q (.panic v) h) : CA qprim 22 [.agg [.str x0.Path, .sl 1 (List.map V.str x0.Deps), .sl 1 (List.map (V.int .i64) x0.Public)]] h Q := by
  refine acalln hp Try.func22 rfl (by kernel_rfl) (n := 7) rfl (rs := [.tmp 2]) rfl [0, 1, 2] [] true (by simp) ?_
  unfold graph_Order_1 at hq
  simp only [initEnv, List.map_cons, List.map_nil, List.getD_cons_zero, List.getD_cons_succ, List.getD_nil, V.demote]
  rw [wp_seq]
  rw [wp_region]
  simp only [RC, RL, RM, ↓evs_eq, loadN, V.slz, V.slz1, lnB, V.left, V.lenOf, slice3, sliceNil, Option.getD_none, sliceOp, cut, upon_each, buildOk, lookup, lookV, update, elemOf, Option.isSome_map, unOp, wanted, aop, tkB, neD, Env.get, Env.put, Env.keep, putD, dstOk, ev, constV, nilSlice, V.demote, V.toOwn, V.cells, ty, R1.res, binOp, isShift, binOpT, isC, intOp, strOp, shiftOp, byteV, index, indexAddr, slice, bounds, hiB, loB, withB, maxV, minV, evs, pickV, lenV, builtin, initEnv, convert, K.isU8, strOf, load, store, fieldOf, append, appT, fltOp, cpxV, realV, imagV, toInt, rangeOp, nextOp, room, fill, placeOf, splice, repl, chunks, Ty.val, Ty.agg, V.plain, H.row, H.ety, AObj.row, Nat.reduceAdd, ↓reduceIte, Nat.reduceEqDiff, Nat.reduceBEq, Nat.reduceBNe, Nat.reduceLT, Int.reduceToNat, Int.reduceEq, Int.reduceLT, Int.reduceLE, reduceCtorEq, Nat.reduceMul, Nat.reduceLeDiff, S_api_Unit.enc, S_graph_wrong.enc]
  rw [wp_seq]
  rw [wp_region]
  simp only [RC, RL, RM, ↓evs_eq, loadN, V.slz, V.slz1, lnB, V.left, V.lenOf, slice3, sliceNil, Option.getD_none, sliceOp, cut, upon_each, buildOk, lookup, lookV, update, elemOf, Option.isSome_map, unOp, wanted, aop, tkB, neD, Env.get, Env.put, Env.keep, putD, dstOk, ev, constV, nilSlice, V.demote, V.toOwn, V.cells, ty, R1.res, binOp, isShift, binOpT, isC, intOp, strOp, shiftOp, byteV, index, indexAddr, slice, bounds, hiB, loB, withB, maxV, minV, evs, pickV, lenV, builtin, initEnv, convert, K.isU8, strOf, load, store, fieldOf, append, appT, fltOp, cpxV, realV, imagV, toInt, rangeOp, nextOp, room, fill, placeOf, splice, repl, chunks, Ty.val, Ty.agg, V.plain, H.row, H.ety, AObj.row, Nat.reduceAdd, ↓reduceIte, Nat.reduceEqDiff, Nat.reduceBEq, Nat.reduceBNe, Nat.reduceLT, Int.reduceToNat, Int.reduceEq, Int.reduceLT, Int.reduceLE, reduceCtorEq, Nat.reduceMul, Nat.reduceLeDiff, S_api_Unit.enc, S_graph_wrong.enc]
  rw [wp_ret]
  simp only [retQ, results, resultAll, resultOne, Nat.zero_add, scopeQ, RC, RL, RM, ↓evs_eq, loadN, V.slz, V.slz1, lnB, V.left, V.lenOf, slice3, sliceNil, Option.getD_none, sliceOp, cut, upon_each, buildOk, lookup, lookV, update, elemOf, Option.isSome_map, unOp, wanted, aop, tkB, neD, Env.get, Env.put, Env.keep, putD, dstOk, ev, constV, nilSlice, V.demote, V.toOwn, V.cells, ty, R1.res, binOp, isShift, binOpT, isC, intOp, strOp, shiftOp, byteV, index, indexAddr, slice, bounds, hiB, loB, withB, maxV, minV, evs, pickV, lenV, builtin, initEnv, convert, K.isU8, strOf, load, store, fieldOf, append, appT, fltOp, cpxV, realV, imagV, toInt, rangeOp, nextOp, room, fill, placeOf, splice, repl, chunks, Ty.val, Ty.agg, V.plain, H.row, H.ety, AObj.row, Nat.reduceAdd, ↓reduceIte, Nat.reduceEqDiff, Nat.reduceBEq, Nat.reduceBNe, Nat.reduceLT, Int.reduceToNat, Int.reduceEq, Int.reduceLT, Int.reduceLE, reduceCtorEq, Nat.reduceMul, Nat.reduceLeDiff, S_api_Unit.enc, S_graph_wrong.enc]
  refine ⟨_, (.refl _), ?_⟩
  refine leave_ok rfl (.bool _) ?_
  exact hK _ hq

def slices_IndexFunc_apiUnit_j0 : R (Int) :=
  R.ok (-1)
def slices_IndexFunc_apiUnit_l1 (x0 : List S_api_Unit) : Nat → Int → R ((Unit) ⊕ (Int))
  | 0, _ => R.stuck
  | k + 1, x8_30 => if x8_30 < (List.length x0 : Int) then (if 0 ≤ x8_30 ∧ x8_30 < (List.length x0 : Int) then ((graph_Order_1 (gt x0 x8_30)).bind fun r54 => if r54 = true then (R.ok (.inr x8_30)) else (slices_IndexFunc_apiUnit_l1 x0 k (IntKind.wrap .i64 (x8_30 + 1)))) else R.stuck) else (R.ok (.inl ()))
def slices_IndexFunc_apiUnit (x0 : List S_api_Unit) : R (Int) :=
  (slices_IndexFunc_apiUnit_l1 x0 Many 0).bind fun | (.inl _) => slices_IndexFunc_apiUnit_j0 | (.inr rp60) => R.ok rp60
theorem slices_IndexFunc_apiUnit_call {h : H} {x0 : List S_api_Unit} {Q : Out → H → Prop} {KK : (Int) → Prop} {X : V → Prop} (hq : (slices_IndexFunc_apiUnit x0).post KK X) (hK : ∀ r, KK r → Q (.ret (.int .i64 r)) h) (hX : ∀ v, X v → V.Cl 0 v ∧ Q (.panic v) h) : CA qprim 32 [.sl 3 (List.map S_api_Unit.enc x0), .func (.func 22) [] []] h Q := by
  refine acalln hp Try.func32 rfl (by kernel_rfl) (n := 19) rfl (rs := [.tmp 4]) rfl [0, 1, 4, 5, 7, 8, 9, 16] [] false (by simp) ?_
  unfold slices_IndexFunc_apiUnit at hq
  simp only [initEnv, List.map_cons, List.map_nil, List.getD_cons_zero, List.getD_cons_succ, List.getD_nil, V.demote]
  rw [wp_seq]
  rw [wp_region]
  simp only [RC, RL, RM, ↓evs_eq, loadN, V.slz, V.slz1, lnB, V.left, V.lenOf, slice3, sliceNil, Option.getD_none, sliceOp, cut, upon_each, buildOk, lookup, lookV, update, elemOf, Option.isSome_map, unOp, wanted, aop, tkB, neD, Env.get, Env.put, Env.keep, putD, dstOk, ev, constV, nilSlice, V.demote, V.toOwn, V.cells, ty, R1.res, binOp, isShift, binOpT, isC, intOp, strOp, shiftOp, byteV, index, indexAddr, slice, bounds, hiB, loB, withB, maxV, minV, evs, pickV, lenV, builtin, initEnv, convert, K.isU8, strOf, load, store, fieldOf, append, appT, fltOp, cpxV, realV, imagV, toInt, rangeOp, nextOp, room, fill, placeOf, splice, repl, chunks, Ty.val, Ty.agg, V.plain, H.row, H.ety, AObj.row, Nat.reduceAdd, ↓reduceIte, Nat.reduceEqDiff, Nat.reduceBEq, Nat.reduceBNe, Nat.reduceLT, Int.reduceToNat, Int.reduceEq, Int.reduceLT, Int.reduceLE, reduceCtorEq, Nat.reduceMul, Nat.reduceLeDiff, S_api_Unit.enc, S_graph_wrong.enc]
  refine seq_gen (acall_mono hp) (σ := V × V × V × V × V × V) (fun s => [(0, .sl 3 (List.map S_api_Unit.enc x0)), (1, .func (.func 22) [] []), (4, s.1), (5, s.2.1), (7, s.2.2.1), (8, s.2.2.2.1), (9, s.2.2.2.2.1), (16, s.2.2.2.2.2)]) (fun s => h) (fun s => (slices_IndexFunc_apiUnit_j0).post KK X) (fun s hq => ?_) (fun N hN29 => ?_)
  · obtain ⟨y4_28, y5_28, y7_28, y8_28, y9_28, y16_28⟩ := s
    try dsimp only at hq ⊢
    unfold slices_IndexFunc_apiUnit_j0 at hq
    rw [wp_seq]
    rw [wp_region]
    simp only [RC, RL, RM, ↓evs_eq, loadN, V.slz, V.slz1, lnB, V.left, V.lenOf, slice3, sliceNil, Option.getD_none, sliceOp, cut, upon_each, buildOk, lookup, lookV, update, elemOf, Option.isSome_map, unOp, wanted, aop, tkB, neD, Env.get, Env.put, Env.keep, putD, dstOk, ev, constV, nilSlice, V.demote, V.toOwn, V.cells, ty, R1.res, binOp, isShift, binOpT, isC, intOp, strOp, shiftOp, byteV, index, indexAddr, slice, bounds, hiB, loB, withB, maxV, minV, evs, pickV, lenV, builtin, initEnv, convert, K.isU8, strOf, load, store, fieldOf, append, appT, fltOp, cpxV, realV, imagV, toInt, rangeOp, nextOp, room, fill, placeOf, splice, repl, chunks, Ty.val, Ty.agg, V.plain, H.row, H.ety, AObj.row, Nat.reduceAdd, ↓reduceIte, Nat.reduceEqDiff, Nat.reduceBEq, Nat.reduceBNe, Nat.reduceLT, Int.reduceToNat, Int.reduceEq, Int.reduceLT, Int.reduceLE, reduceCtorEq, Nat.reduceMul, Nat.reduceLeDiff, S_api_Unit.enc, S_graph_wrong.enc]
    rw [wp_ret]
    simp only [retQ, results, resultAll, resultOne, Nat.zero_add, scopeQ, RC, RL, RM, ↓evs_eq, loadN, V.slz, V.slz1, lnB, V.left, V.lenOf, slice3, sliceNil, Option.getD_none, sliceOp, cut, upon_each, buildOk, lookup, lookV, update, elemOf, Option.isSome_map, unOp, wanted, aop, tkB, neD, Env.get, Env.put, Env.keep, putD, dstOk, ev, constV, nilSlice, V.demote, V.toOwn, V.cells, ty, R1.res, binOp, isShift, binOpT, isC, intOp, strOp, shiftOp, byteV, index, indexAddr, slice, bounds, hiB, loB, withB, maxV, minV, evs, pickV, lenV, builtin, initEnv, convert, K.isU8, strOf, load, store, fieldOf, append, appT, fltOp, cpxV, realV, imagV, toInt, rangeOp, nextOp, room, fill, placeOf, splice, repl, chunks, Ty.val, Ty.agg, V.plain, H.row, H.ety, AObj.row, Nat.reduceAdd, ↓reduceIte, Nat.reduceEqDiff, Nat.reduceBEq, Nat.reduceBNe, Nat.reduceLT, Int.reduceToNat, Int.reduceEq, Int.reduceLT, Int.reduceLE, reduceCtorEq, Nat.reduceMul, Nat.reduceLeDiff, S_api_Unit.enc, S_graph_wrong.enc]
    refine ⟨_, (.refl _), ?_⟩
    exact hK _ hq
  · rw [wp_seq]
    rw [wp_region]
    simp only [RC, RL, RM, ↓evs_eq, loadN, V.slz, V.slz1, lnB, V.left, V.lenOf, slice3, sliceNil, Option.getD_none, sliceOp, cut, upon_each, buildOk, lookup, lookV, update, elemOf, Option.isSome_map, unOp, wanted, aop, tkB, neD, Env.get, Env.put, Env.keep, putD, dstOk, ev, constV, nilSlice, V.demote, V.toOwn, V.cells, ty, R1.res, binOp, isShift, binOpT, isC, intOp, strOp, shiftOp, byteV, index, indexAddr, slice, bounds, hiB, loB, withB, maxV, minV, evs, pickV, lenV, builtin, initEnv, convert, K.isU8, strOf, load, store, fieldOf, append, appT, fltOp, cpxV, realV, imagV, toInt, rangeOp, nextOp, room, fill, placeOf, splice, repl, chunks, Ty.val, Ty.agg, V.plain, H.row, H.ety, AObj.row, Nat.reduceAdd, ↓reduceIte, Nat.reduceEqDiff, Nat.reduceBEq, Nat.reduceBNe, Nat.reduceLT, Int.reduceToNat, Int.reduceEq, Int.reduceLT, Int.reduceLE, reduceCtorEq, Nat.reduceMul, Nat.reduceLeDiff, S_api_Unit.enc, S_graph_wrong.enc]
    rw [wp_block]
    refine loop_in ?_
    refine Wk.le (EnvLe.cons (.refl _) (EnvLe.cons (.refl _) (EnvLe.cons (.top _) (EnvLe.cons (.refl _) (EnvLe.cons (.refl _) (EnvLe.cons (.refl _) (EnvLe.cons (.refl _) (EnvLe.cons (.refl _) EnvLe.nil)))))))) ?_
    obtain ⟨K43, hK44, hq⟩ := R.post_cut hq
    refine loop_gen (acall_mono hp) (σ := V × V × Int × V × V) (fun s => [(0, .sl 3 (List.map S_api_Unit.enc x0)), (1, .func (.func 22) [] []), (4, s.1), (5, s.2.1), (7, .int .i64 (List.length x0 : Int)), (8, .int .i64 s.2.2.1), (9, s.2.2.2.1), (16, s.2.2.2.2)]) (fun s => h) (fun k s => (slices_IndexFunc_apiUnit_l1 x0 k s.2.2.1).post K43 X) (fun s hs => hs) (fun k58 s hq N hN45 => ?_) _ (_, _, 0, _, _) hq
    obtain ⟨y4_30, y5_30, x8_30, y9_30, y16_30⟩ := s
    try dsimp only at hq ⊢
    rw [slices_IndexFunc_apiUnit_l1] at hq
    rw [wp_seq]
    rw [wp_region]
    simp only [RC, RL, RM, ↓evs_eq, loadN, V.slz, V.slz1, lnB, V.left, V.lenOf, slice3, sliceNil, Option.getD_none, sliceOp, cut, upon_each, buildOk, lookup, lookV, update, elemOf, Option.isSome_map, unOp, wanted, aop, tkB, neD, Env.get, Env.put, Env.keep, putD, dstOk, ev, constV, nilSlice, V.demote, V.toOwn, V.cells, ty, R1.res, binOp, isShift, binOpT, isC, intOp, strOp, shiftOp, byteV, index, indexAddr, slice, bounds, hiB, loB, withB, maxV, minV, evs, pickV, lenV, builtin, initEnv, convert, K.isU8, strOf, load, store, fieldOf, append, appT, fltOp, cpxV, realV, imagV, toInt, rangeOp, nextOp, room, fill, placeOf, splice, repl, chunks, Ty.val, Ty.agg, V.plain, H.row, H.ety, AObj.row, Nat.reduceAdd, ↓reduceIte, Nat.reduceEqDiff, Nat.reduceBEq, Nat.reduceBNe, Nat.reduceLT, Int.reduceToNat, Int.reduceEq, Int.reduceLT, Int.reduceLE, reduceCtorEq, Nat.reduceMul, Nat.reduceLeDiff, S_api_Unit.enc, S_graph_wrong.enc]
    rw [wp_seq]
    rw [wp_cond]
    simp only [RC, RL, RM, ↓evs_eq, loadN, V.slz, V.slz1, lnB, V.left, V.lenOf, slice3, sliceNil, Option.getD_none, sliceOp, cut, upon_each, buildOk, lookup, lookV, update, elemOf, Option.isSome_map, unOp, wanted, aop, tkB, neD, Env.get, Env.put, Env.keep, putD, dstOk, ev, constV, nilSlice, V.demote, V.toOwn, V.cells, ty, R1.res, binOp, isShift, binOpT, isC, intOp, strOp, shiftOp, byteV, index, indexAddr, slice, bounds, hiB, loB, withB, maxV, minV, evs, pickV, lenV, builtin, initEnv, convert, K.isU8, strOf, load, store, fieldOf, append, appT, fltOp, cpxV, realV, imagV, toInt, rangeOp, nextOp, room, fill, placeOf, splice, repl, chunks, Ty.val, Ty.agg, V.plain, H.row, H.ety, AObj.row, Nat.reduceAdd, ↓reduceIte, Nat.reduceEqDiff, Nat.reduceBEq, Nat.reduceBNe, Nat.reduceLT, Int.reduceToNat, Int.reduceEq, Int.reduceLT, Int.reduceLE, reduceCtorEq, Nat.reduceMul, Nat.reduceLeDiff, S_api_Unit.enc, S_graph_wrong.enc]
    by_cases hc46 : x8_30 < (List.length x0 : Int)
    · replace hq := (R.post_if hq).1 hc46
      refine condK_t (congrArg V.bool (decide_eq_true hc46)) ?_
      try simp only [wp_skip, RC]
      refine Wk.same ?_
      try simp only [RC]
      rw [wp_seq]
      rw [wp_block]
      rw [wp_seq]
      rw [wp_region]
      simp only [RC, RL, RM, ↓evs_eq, loadN, V.slz, V.slz1, lnB, V.left, V.lenOf, slice3, sliceNil, Option.getD_none, sliceOp, cut, upon_each, buildOk, lookup, lookV, update, elemOf, Option.isSome_map, unOp, wanted, aop, tkB, neD, Env.get, Env.put, Env.keep, putD, dstOk, ev, constV, nilSlice, V.demote, V.toOwn, V.cells, ty, R1.res, binOp, isShift, binOpT, isC, intOp, strOp, shiftOp, byteV, index, indexAddr, slice, bounds, hiB, loB, withB, maxV, minV, evs, pickV, lenV, builtin, initEnv, convert, K.isU8, strOf, load, store, fieldOf, append, appT, fltOp, cpxV, realV, imagV, toInt, rangeOp, nextOp, room, fill, placeOf, splice, repl, chunks, Ty.val, Ty.agg, V.plain, H.row, H.ety, AObj.row, Nat.reduceAdd, ↓reduceIte, Nat.reduceEqDiff, Nat.reduceBEq, Nat.reduceBNe, Nat.reduceLT, Int.reduceToNat, Int.reduceEq, Int.reduceLT, Int.reduceLE, reduceCtorEq, Nat.reduceMul, Nat.reduceLeDiff, S_api_Unit.enc, S_graph_wrong.enc]
      rw [wp_seq]
      rw [wp_region]
      obtain ⟨g52, hq⟩ := R.guard hq
      have e53 := map_gt (f := S_api_Unit.enc) (l := x0) (i := x8_30) g52
      simp only [e53, RC, RL, RM, ↓evs_eq, loadN, V.slz, V.slz1, lnB, V.left, V.lenOf, slice3, sliceNil, Option.getD_none, sliceOp, cut, upon_each, buildOk, lookup, lookV, update, elemOf, Option.isSome_map, unOp, wanted, aop, tkB, neD, Env.get, Env.put, Env.keep, putD, dstOk, ev, constV, nilSlice, V.demote, V.toOwn, V.cells, ty, R1.res, binOp, isShift, binOpT, isC, intOp, strOp, shiftOp, byteV, index, indexAddr, slice, bounds, hiB, loB, withB, maxV, minV, evs, pickV, lenV, builtin, initEnv, convert, K.isU8, strOf, load, store, fieldOf, append, appT, fltOp, cpxV, realV, imagV, toInt, rangeOp, nextOp, room, fill, placeOf, splice, repl, chunks, Ty.val, Ty.agg, V.plain, H.row, H.ety, AObj.row, Nat.reduceAdd, ↓reduceIte, Nat.reduceEqDiff, Nat.reduceBEq, Nat.reduceBNe, Nat.reduceLT, Int.reduceToNat, Int.reduceEq, Int.reduceLT, Int.reduceLE, reduceCtorEq, Nat.reduceMul, Nat.reduceLeDiff, S_api_Unit.enc, S_graph_wrong.enc]
      repeat (with_reducible refine And.intro (by first | omega | assumption) ?_)
      obtain ⟨K56, hK57, hq⟩ := R.post_cut hq
      refine graph_Order_1_call (x0 := (gt x0 x8_30)) hq (fun r54 hq => ?_) (fun v hv => ⟨(hX v hv).1, ?_⟩)
      · replace hq := hK57 _ hq
        simp only [RC, RL, RM, ↓evs_eq, loadN, V.slz, V.slz1, lnB, V.left, V.lenOf, slice3, sliceNil, Option.getD_none, sliceOp, cut, upon_each, buildOk, lookup, lookV, update, elemOf, Option.isSome_map, unOp, wanted, aop, tkB, neD, Env.get, Env.put, Env.keep, putD, dstOk, ev, constV, nilSlice, V.demote, V.toOwn, V.cells, ty, R1.res, binOp, isShift, binOpT, isC, intOp, strOp, shiftOp, byteV, index, indexAddr, slice, bounds, hiB, loB, withB, maxV, minV, evs, pickV, lenV, builtin, initEnv, convert, K.isU8, strOf, load, store, fieldOf, append, appT, fltOp, cpxV, realV, imagV, toInt, rangeOp, nextOp, room, fill, placeOf, splice, repl, chunks, Ty.val, Ty.agg, V.plain, H.row, H.ety, AObj.row, Nat.reduceAdd, ↓reduceIte, Nat.reduceEqDiff, Nat.reduceBEq, Nat.reduceBNe, Nat.reduceLT, Int.reduceToNat, Int.reduceEq, Int.reduceLT, Int.reduceLE, reduceCtorEq, Nat.reduceMul, Nat.reduceLeDiff, S_api_Unit.enc, S_graph_wrong.enc]
        rw [wp_cond]
        simp only [RC, RL, RM, ↓evs_eq, loadN, V.slz, V.slz1, lnB, V.left, V.lenOf, slice3, sliceNil, Option.getD_none, sliceOp, cut, upon_each, buildOk, lookup, lookV, update, elemOf, Option.isSome_map, unOp, wanted, aop, tkB, neD, Env.get, Env.put, Env.keep, putD, dstOk, ev, constV, nilSlice, V.demote, V.toOwn, V.cells, ty, R1.res, binOp, isShift, binOpT, isC, intOp, strOp, shiftOp, byteV, index, indexAddr, slice, bounds, hiB, loB, withB, maxV, minV, evs, pickV, lenV, builtin, initEnv, convert, K.isU8, strOf, load, store, fieldOf, append, appT, fltOp, cpxV, realV, imagV, toInt, rangeOp, nextOp, room, fill, placeOf, splice, repl, chunks, Ty.val, Ty.agg, V.plain, H.row, H.ety, AObj.row, Nat.reduceAdd, ↓reduceIte, Nat.reduceEqDiff, Nat.reduceBEq, Nat.reduceBNe, Nat.reduceLT, Int.reduceToNat, Int.reduceEq, Int.reduceLT, Int.reduceLE, reduceCtorEq, Nat.reduceMul, Nat.reduceLeDiff, S_api_Unit.enc, S_graph_wrong.enc]
        by_cases hc55 : r54 = true
        · replace hq := (R.post_if hq).1 hc55
          refine condK_t (congrArg V.bool (hc55)) ?_
          rw [wp_seq]
          rw [wp_region]
          simp only [RC, RL, RM, ↓evs_eq, loadN, V.slz, V.slz1, lnB, V.left, V.lenOf, slice3, sliceNil, Option.getD_none, sliceOp, cut, upon_each, buildOk, lookup, lookV, update, elemOf, Option.isSome_map, unOp, wanted, aop, tkB, neD, Env.get, Env.put, Env.keep, putD, dstOk, ev, constV, nilSlice, V.demote, V.toOwn, V.cells, ty, R1.res, binOp, isShift, binOpT, isC, intOp, strOp, shiftOp, byteV, index, indexAddr, slice, bounds, hiB, loB, withB, maxV, minV, evs, pickV, lenV, builtin, initEnv, convert, K.isU8, strOf, load, store, fieldOf, append, appT, fltOp, cpxV, realV, imagV, toInt, rangeOp, nextOp, room, fill, placeOf, splice, repl, chunks, Ty.val, Ty.agg, V.plain, H.row, H.ety, AObj.row, Nat.reduceAdd, ↓reduceIte, Nat.reduceEqDiff, Nat.reduceBEq, Nat.reduceBNe, Nat.reduceLT, Int.reduceToNat, Int.reduceEq, Int.reduceLT, Int.reduceLE, reduceCtorEq, Nat.reduceMul, Nat.reduceLeDiff, S_api_Unit.enc, S_graph_wrong.enc]
          rw [wp_ret]
          simp only [retQ, results, resultAll, resultOne, Nat.zero_add, scopeQ, RC, RL, RM, ↓evs_eq, loadN, V.slz, V.slz1, lnB, V.left, V.lenOf, slice3, sliceNil, Option.getD_none, sliceOp, cut, upon_each, buildOk, lookup, lookV, update, elemOf, Option.isSome_map, unOp, wanted, aop, tkB, neD, Env.get, Env.put, Env.keep, putD, dstOk, ev, constV, nilSlice, V.demote, V.toOwn, V.cells, ty, R1.res, binOp, isShift, binOpT, isC, intOp, strOp, shiftOp, byteV, index, indexAddr, slice, bounds, hiB, loB, withB, maxV, minV, evs, pickV, lenV, builtin, initEnv, convert, K.isU8, strOf, load, store, fieldOf, append, appT, fltOp, cpxV, realV, imagV, toInt, rangeOp, nextOp, room, fill, placeOf, splice, repl, chunks, Ty.val, Ty.agg, V.plain, H.row, H.ety, AObj.row, Nat.reduceAdd, ↓reduceIte, Nat.reduceEqDiff, Nat.reduceBEq, Nat.reduceBNe, Nat.reduceLT, Int.reduceToNat, Int.reduceEq, Int.reduceLT, Int.reduceLE, reduceCtorEq, Nat.reduceMul, Nat.reduceLeDiff, S_api_Unit.enc, S_graph_wrong.enc]
          refine ⟨_, (.refl _), ?_⟩
          replace hq := hK44 _ hq
          exact hK _ hq
        · replace hq := (R.post_if hq).2 hc55
          replace hc55 := eq_false_of_ne_true hc55
          refine condK_f (congrArg V.bool (hc55)) ?_
          try simp only [wp_skip, RC]
          refine Wk.same ?_
          try simp only [RC]
          refine Wk.same ?_
          try simp only [RC]
          rw [wp_region]
          simp only [RC, RL, RM, ↓evs_eq, loadN, V.slz, V.slz1, lnB, V.left, V.lenOf, slice3, sliceNil, Option.getD_none, sliceOp, cut, upon_each, buildOk, lookup, lookV, update, elemOf, Option.isSome_map, unOp, wanted, aop, tkB, neD, Env.get, Env.put, Env.keep, putD, dstOk, ev, constV, nilSlice, V.demote, V.toOwn, V.cells, ty, R1.res, binOp, isShift, binOpT, isC, intOp, strOp, shiftOp, byteV, index, indexAddr, slice, bounds, hiB, loB, withB, maxV, minV, evs, pickV, lenV, builtin, initEnv, convert, K.isU8, strOf, load, store, fieldOf, append, appT, fltOp, cpxV, realV, imagV, toInt, rangeOp, nextOp, room, fill, placeOf, splice, repl, chunks, Ty.val, Ty.agg, V.plain, H.row, H.ety, AObj.row, Nat.reduceAdd, ↓reduceIte, Nat.reduceEqDiff, Nat.reduceBEq, Nat.reduceBNe, Nat.reduceLT, Int.reduceToNat, Int.reduceEq, Int.reduceLT, Int.reduceLE, reduceCtorEq, Nat.reduceMul, Nat.reduceLeDiff, S_api_Unit.enc, S_graph_wrong.enc]
          refine Wk.le (EnvLe.cons (.refl _) (EnvLe.cons (.refl _) (EnvLe.cons (.refl _) (EnvLe.cons (.top _) (EnvLe.cons (.refl _) (EnvLe.cons (.refl _) (EnvLe.cons (.top _) (EnvLe.cons (.top _) EnvLe.nil)))))))) ?_
          exact hN45 (_, _, (IntKind.wrap .i64 (x8_30 + 1)), _, _) hq
      · simp only [RC, scopeQ, retQ, ↓reduceIte, Bool.false_eq_true]
        exact (hX _ hv).2
    · replace hq := (R.post_if hq).2 hc46
      refine condK_f (congrArg V.bool (decide_eq_false hc46)) ?_
      rw [wp_exit]
      try simp only [↓reduceIte, Nat.reduceEqDiff, reduceCtorEq, if_false, if_true, eq_self, Nat.succ_ne_self, RC]
      replace hq := hK44 _ hq
      try dsimp only at hq
      refine Wk.le (EnvLe.cons (.refl _) (EnvLe.cons (.refl _) (EnvLe.cons (.refl _) (EnvLe.cons (.refl _) (EnvLe.cons (.top _) (EnvLe.cons (.top _) (EnvLe.cons (.top _) (EnvLe.cons (.refl _) EnvLe.nil)))))))) ?_
      try simp only [RC]
      exact hN29 (_, _, _, _, _, _) hq

def slices_ContainsFunc_apiUnit (x0 : List S_api_Unit) : R (Bool) :=
  (slices_IndexFunc_apiUnit x0).bind fun r4 => R.ok (decide ((0 : Int) ≤ r4))
theorem slices_ContainsFunc_apiUnit_call {h : H} {x0 : List S_api_Unit} {Q : Out → H → Prop} {KK : (Bool) → Prop} {X : V → Prop} (hq : (slices_ContainsFunc_apiUnit x0).post KK X) (hK : ∀ r, KK r → Q (.ret (.bool r)) h) (hX : ∀ v, X v → V.Cl 0 v ∧ Q (.panic v) h) : CA qprim 21 [.sl 3 (List.map S_api_Unit.enc x0), .func (.func 22) [] []] h Q := by
  refine acalln hp Try.func21 rfl (by kernel_rfl) (n := 9) rfl (rs := [.tmp 4]) rfl [0, 1, 4] [] false (by simp) ?_
  unfold slices_ContainsFunc_apiUnit at hq
  simp only [initEnv, List.map_cons, List.map_nil, List.getD_cons_zero, List.getD_cons_succ, List.getD_nil, V.demote]
  rw [wp_seq]
  rw [wp_region]
  simp only [RC, RL, RM, ↓evs_eq, loadN, V.slz, V.slz1, lnB, V.left, V.lenOf, slice3, sliceNil, Option.getD_none, sliceOp, cut, upon_each, buildOk, lookup, lookV, update, elemOf, Option.isSome_map, unOp, wanted, aop, tkB, neD, Env.get, Env.put, Env.keep, putD, dstOk, ev, constV, nilSlice, V.demote, V.toOwn, V.cells, ty, R1.res, binOp, isShift, binOpT, isC, intOp, strOp, shiftOp, byteV, index, indexAddr, slice, bounds, hiB, loB, withB, maxV, minV, evs, pickV, lenV, builtin, initEnv, convert, K.isU8, strOf, load, store, fieldOf, append, appT, fltOp, cpxV, realV, imagV, toInt, rangeOp, nextOp, room, fill, placeOf, splice, repl, chunks, Ty.val, Ty.agg, V.plain, H.row, H.ety, AObj.row, Nat.reduceAdd, ↓reduceIte, Nat.reduceEqDiff, Nat.reduceBEq, Nat.reduceBNe, Nat.reduceLT, Int.reduceToNat, Int.reduceEq, Int.reduceLT, Int.reduceLE, reduceCtorEq, Nat.reduceMul, Nat.reduceLeDiff, S_api_Unit.enc, S_graph_wrong.enc]
  rw [wp_seq]
  rw [wp_region]
  simp only [RC, RL, RM, ↓evs_eq, loadN, V.slz, V.slz1, lnB, V.left, V.lenOf, slice3, sliceNil, Option.getD_none, sliceOp, cut, upon_each, buildOk, lookup, lookV, update, elemOf, Option.isSome_map, unOp, wanted, aop, tkB, neD, Env.get, Env.put, Env.keep, putD, dstOk, ev, constV, nilSlice, V.demote, V.toOwn, V.cells, ty, R1.res, binOp, isShift, binOpT, isC, intOp, strOp, shiftOp, byteV, index, indexAddr, slice, bounds, hiB, loB, withB, maxV, minV, evs, pickV, lenV, builtin, initEnv, convert, K.isU8, strOf, load, store, fieldOf, append, appT, fltOp, cpxV, realV, imagV, toInt, rangeOp, nextOp, room, fill, placeOf, splice, repl, chunks, Ty.val, Ty.agg, V.plain, H.row, H.ety, AObj.row, Nat.reduceAdd, ↓reduceIte, Nat.reduceEqDiff, Nat.reduceBEq, Nat.reduceBNe, Nat.reduceLT, Int.reduceToNat, Int.reduceEq, Int.reduceLT, Int.reduceLE, reduceCtorEq, Nat.reduceMul, Nat.reduceLeDiff, S_api_Unit.enc, S_graph_wrong.enc]
  obtain ⟨K5, hK6, hq⟩ := R.post_cut hq
  refine slices_IndexFunc_apiUnit_call (x0 := x0) hq (fun r4 hq => ?_) (fun v hv => ⟨(hX v hv).1, ?_⟩)
  · replace hq := hK6 _ hq
    simp only [RC, RL, RM, ↓evs_eq, loadN, V.slz, V.slz1, lnB, V.left, V.lenOf, slice3, sliceNil, Option.getD_none, sliceOp, cut, upon_each, buildOk, lookup, lookV, update, elemOf, Option.isSome_map, unOp, wanted, aop, tkB, neD, Env.get, Env.put, Env.keep, putD, dstOk, ev, constV, nilSlice, V.demote, V.toOwn, V.cells, ty, R1.res, binOp, isShift, binOpT, isC, intOp, strOp, shiftOp, byteV, index, indexAddr, slice, bounds, hiB, loB, withB, maxV, minV, evs, pickV, lenV, builtin, initEnv, convert, K.isU8, strOf, load, store, fieldOf, append, appT, fltOp, cpxV, realV, imagV, toInt, rangeOp, nextOp, room, fill, placeOf, splice, repl, chunks, Ty.val, Ty.agg, V.plain, H.row, H.ety, AObj.row, Nat.reduceAdd, ↓reduceIte, Nat.reduceEqDiff, Nat.reduceBEq, Nat.reduceBNe, Nat.reduceLT, Int.reduceToNat, Int.reduceEq, Int.reduceLT, Int.reduceLE, reduceCtorEq, Nat.reduceMul, Nat.reduceLeDiff, S_api_Unit.enc, S_graph_wrong.enc]
    rw [wp_ret]
    simp only [retQ, results, resultAll, resultOne, Nat.zero_add, scopeQ, RC, RL, RM, ↓evs_eq, loadN, V.slz, V.slz1, lnB, V.left, V.lenOf, slice3, sliceNil, Option.getD_none, sliceOp, cut, upon_each, buildOk, lookup, lookV, update, elemOf, Option.isSome_map, unOp, wanted, aop, tkB, neD, Env.get, Env.put, Env.keep, putD, dstOk, ev, constV, nilSlice, V.demote, V.toOwn, V.cells, ty, R1.res, binOp, isShift, binOpT, isC, intOp, strOp, shiftOp, byteV, index, indexAddr, slice, bounds, hiB, loB, withB, maxV, minV, evs, pickV, lenV, builtin, initEnv, convert, K.isU8, strOf, load, store, fieldOf, append, appT, fltOp, cpxV, realV, imagV, toInt, rangeOp, nextOp, room, fill, placeOf, splice, repl, chunks, Ty.val, Ty.agg, V.plain, H.row, H.ety, AObj.row, Nat.reduceAdd, ↓reduceIte, Nat.reduceEqDiff, Nat.reduceBEq, Nat.reduceBNe, Nat.reduceLT, Int.reduceToNat, Int.reduceEq, Int.reduceLT, Int.reduceLE, reduceCtorEq, Nat.reduceMul, Nat.reduceLeDiff, S_api_Unit.enc, S_graph_wrong.enc]
    refine ⟨_, (.refl _), ?_⟩
    exact hK _ hq
  · simp only [RC, scopeQ, retQ, ↓reduceIte, Bool.false_eq_true]
    exact (hX _ hv).2

def graph_Order_2 (p : S_graph_wrong) : R ((List (List UInt8)) × (List UInt8) × Int) :=
  R.ok ([], p.path, p.e)
theorem graph_Order_2_nil {h : H} {id0 : Nat} {id1 : Nat} {id2 : Nat} {KH : H → Prop} (hK : KH h) : closeC Try.prog ty (CA qprim) 23 [.ref id0 0, .ref id1 0, .ref id2 0] .nili h KH := by
  refine closeC_n Try.func23 rfl (by kernel_rfl) (n := 21) rfl rfl ⟨rfl, rfl, rfl⟩ ⟨rfl, rfl, rfl⟩ [0, 1, 2, 3, 4, 5, 8, 15] [] (by simp) (by decide) (by decide) ?_
  simp only [initEnv, List.map_cons, List.map_nil, List.getD_cons_zero, List.getD_cons_succ, List.getD_nil, V.demote, Env.put, ↓reduceIte, Nat.reduceEqDiff, Nat.succ_ne_self, if_true, if_false, reduceCtorEq, eq_self]
  rw [wp_seq]
  rw [wp_region]
  simp only [RC, RL, RM, ↓evs_eq, loadN, V.slz, V.slz1, lnB, V.left, V.lenOf, slice3, sliceNil, Option.getD_none, sliceOp, cut, upon_each, buildOk, lookup, lookV, update, elemOf, Option.isSome_map, unOp, wanted, aop, tkB, neD, Env.get, Env.put, Env.keep, putD, dstOk, ev, constV, nilSlice, V.demote, V.toOwn, V.cells, ty, R1.res, binOp, isShift, binOpT, isC, intOp, strOp, shiftOp, byteV, index, indexAddr, slice, bounds, hiB, loB, withB, maxV, minV, evs, pickV, lenV, builtin, initEnv, convert, K.isU8, strOf, load, store, fieldOf, append, appT, fltOp, cpxV, realV, imagV, toInt, rangeOp, nextOp, room, fill, placeOf, splice, repl, chunks, Ty.val, Ty.agg, V.plain, H.row, H.ety, AObj.row, Nat.reduceAdd, ↓reduceIte, Nat.reduceEqDiff, Nat.reduceBEq, Nat.reduceBNe, Nat.reduceLT, Int.reduceToNat, Int.reduceEq, Int.reduceLT, Int.reduceLE, reduceCtorEq, Nat.reduceMul, Nat.reduceLeDiff, S_api_Unit.enc, S_graph_wrong.enc]
  rw [wp_cond]
  simp only [RC, RL, RM, ↓evs_eq, loadN, V.slz, V.slz1, lnB, V.left, V.lenOf, slice3, sliceNil, Option.getD_none, sliceOp, cut, upon_each, buildOk, lookup, lookV, update, elemOf, Option.isSome_map, unOp, wanted, aop, tkB, neD, Env.get, Env.put, Env.keep, putD, dstOk, ev, constV, nilSlice, V.demote, V.toOwn, V.cells, ty, R1.res, binOp, isShift, binOpT, isC, intOp, strOp, shiftOp, byteV, index, indexAddr, slice, bounds, hiB, loB, withB, maxV, minV, evs, pickV, lenV, builtin, initEnv, convert, K.isU8, strOf, load, store, fieldOf, append, appT, fltOp, cpxV, realV, imagV, toInt, rangeOp, nextOp, room, fill, placeOf, splice, repl, chunks, Ty.val, Ty.agg, V.plain, H.row, H.ety, AObj.row, Nat.reduceAdd, ↓reduceIte, Nat.reduceEqDiff, Nat.reduceBEq, Nat.reduceBNe, Nat.reduceLT, Int.reduceToNat, Int.reduceEq, Int.reduceLT, Int.reduceLE, reduceCtorEq, Nat.reduceMul, Nat.reduceLeDiff, S_api_Unit.enc, S_graph_wrong.enc]
  rw [condK_ff]
  try simp only [wp_skip, RC]
  refine Wk.same ?_
  try simp only [RC]
  first | rw [closeQ_n] | rw [closeQ_r]
  exact hK
theorem graph_Order_2_close {h : H} {p : S_graph_wrong} {o0_0 : V} {o1_0 : V} {o2_0 : V} {id0 : Nat} {id1 : Nat} {id2 : Nat} {KK : ((List (List UInt8)) × (List UInt8) × Int) → Prop} {X : V → Prop} {KH : H → Prop} (h00 : h[id0]? = some (.cells 23 [o0_0])) (h01 : h[id1]? = some (.cells 9 [o1_0])) (h02 : h[id2]? = some (.cells 26 [o2_0])) (hne01 : id0 ≠ id1) (hne02 : id0 ≠ id2) (hne12 : id1 ≠ id2) (hq : (graph_Order_2 p).post KK X) (hK : ∀ r, KK r → ∀ L, KH ((List.set (List.set (List.set h id0 (.cells 23 [.own 9 1 (List.map V.str r.1)])) id1 (.cells 9 [.str r.2.1])) id2 (.cells 26 [.int .i64 r.2.2])) ++ L)) : closeC Try.prog ty (CA qprim) 23 [.ref id0 0, .ref id1 0, .ref id2 0] (.iface 44 (S_graph_wrong.enc p)) h KH := by
  refine closeC_n Try.func23 rfl (by kernel_rfl) (n := 21) rfl rfl ⟨rfl, rfl, rfl⟩ ⟨rfl, rfl, rfl⟩ [0, 1, 2, 3, 4, 5, 8, 15] [] (by simp) (by decide) (by decide) ?_
  simp only [initEnv, List.map_cons, List.map_nil, List.getD_cons_zero, List.getD_cons_succ, List.getD_nil, V.demote, Env.put, ↓reduceIte, Nat.reduceEqDiff, Nat.succ_ne_self, if_true, if_false, reduceCtorEq, eq_self]
  unfold graph_Order_2 at hq
  have hlt0 : id0 < h.length := (List.getElem?_eq_some_iff.1 h00).1
  have hlt1 : id1 < h.length := (List.getElem?_eq_some_iff.1 h01).1
  have hlt2 : id2 < h.length := (List.getElem?_eq_some_iff.1 h02).1
  have hlen : ∀ (c0 c1 c2 : AObj), List.length (List.set (List.set (List.set h id0 c0) id1 c1) id2 c2) = h.length := by intros; simp only [List.length_set]
  have hg0 : ∀ (c0 c1 c2 : AObj), ((List.set (List.set (List.set h id0 c0) id1 c1) id2 c2) : List AObj)[id0]? = some c0 := by intros; simp [List.getElem?_set, hlt0, hlt1, hlt2, hne01, Ne.symm hne01, hne02, Ne.symm hne02, hne12, Ne.symm hne12]
  have hgl0 : ∀ (c0 c1 c2 : AObj) (L : List AObj), ((List.set (List.set (List.set h id0 c0) id1 c1) id2 c2) ++ L)[id0]? = some c0 := by intros; rw [List.getElem?_append_left (by rw [hlen]; exact hlt0)]; exact hg0 _ _ _
  have hs0 : ∀ (c0 c1 c2 : AObj) (x : AObj), List.set (List.set (List.set (List.set h id0 c0) id1 c1) id2 c2) id0 x = (List.set (List.set (List.set h id0 x) id1 c1) id2 c2) := by clear hK hq h00 h01 h02; have he01 := Ne.symm hne01; have he02 := Ne.symm hne02; have he12 := Ne.symm hne12; intros; apply List.ext_getElem?; intro i; simp only [List.getElem?_set, List.length_set]; repeat' split; all_goals simp_all
  have hsl0 : ∀ (c0 c1 c2 : AObj) (x : AObj) (L : List AObj), List.set ((List.set (List.set (List.set h id0 c0) id1 c1) id2 c2) ++ L) id0 x = (List.set (List.set (List.set h id0 x) id1 c1) id2 c2) ++ L := by intros; rw [List.set_append_left _ _ (by rw [hlen]; exact hlt0), hs0]
  have hg1 : ∀ (c0 c1 c2 : AObj), ((List.set (List.set (List.set h id0 c0) id1 c1) id2 c2) : List AObj)[id1]? = some c1 := by intros; simp [List.getElem?_set, hlt0, hlt1, hlt2, hne01, Ne.symm hne01, hne02, Ne.symm hne02, hne12, Ne.symm hne12]
  have hgl1 : ∀ (c0 c1 c2 : AObj) (L : List AObj), ((List.set (List.set (List.set h id0 c0) id1 c1) id2 c2) ++ L)[id1]? = some c1 := by intros; rw [List.getElem?_append_left (by rw [hlen]; exact hlt1)]; exact hg1 _ _ _
  have hs1 : ∀ (c0 c1 c2 : AObj) (x : AObj), List.set (List.set (List.set (List.set h id0 c0) id1 c1) id2 c2) id1 x = (List.set (List.set (List.set h id0 c0) id1 x) id2 c2) := by clear hK hq h00 h01 h02; have he01 := Ne.symm hne01; have he02 := Ne.symm hne02; have he12 := Ne.symm hne12; intros; apply List.ext_getElem?; intro i; simp only [List.getElem?_set, List.length_set]; repeat' split; all_goals simp_all
  have hsl1 : ∀ (c0 c1 c2 : AObj) (x : AObj) (L : List AObj), List.set ((List.set (List.set (List.set h id0 c0) id1 c1) id2 c2) ++ L) id1 x = (List.set (List.set (List.set h id0 c0) id1 x) id2 c2) ++ L := by intros; rw [List.set_append_left _ _ (by rw [hlen]; exact hlt1), hs1]
  have hg2 : ∀ (c0 c1 c2 : AObj), ((List.set (List.set (List.set h id0 c0) id1 c1) id2 c2) : List AObj)[id2]? = some c2 := by intros; simp [List.getElem?_set, hlt0, hlt1, hlt2, hne01, Ne.symm hne01, hne02, Ne.symm hne02, hne12, Ne.symm hne12]
  have hgl2 : ∀ (c0 c1 c2 : AObj) (L : List AObj), ((List.set (List.set (List.set h id0 c0) id1 c1) id2 c2) ++ L)[id2]? = some c2 := by intros; rw [List.getElem?_append_left (by rw [hlen]; exact hlt2)]; exact hg2 _ _ _
  have hs2 : ∀ (c0 c1 c2 : AObj) (x : AObj), List.set (List.set (List.set (List.set h id0 c0) id1 c1) id2 c2) id2 x = (List.set (List.set (List.set h id0 c0) id1 c1) id2 x) := by clear hK hq h00 h01 h02; have he01 := Ne.symm hne01; have he02 := Ne.symm hne02; have he12 := Ne.symm hne12; intros; apply List.ext_getElem?; intro i; simp only [List.getElem?_set, List.length_set]; repeat' split; all_goals simp_all
  have hsl2 : ∀ (c0 c1 c2 : AObj) (x : AObj) (L : List AObj), List.set ((List.set (List.set (List.set h id0 c0) id1 c1) id2 c2) ++ L) id2 x = (List.set (List.set (List.set h id0 c0) id1 c1) id2 x) ++ L := by intros; rw [List.set_append_left _ _ (by rw [hlen]; exact hlt2), hs2]
  have hgL : ∀ (c0 c1 c2 : AObj) (L : List AObj) (j : Nat), ((List.set (List.set (List.set h id0 c0) id1 c1) id2 c2) ++ L)[h.length + j]? = L[j]? := by intro c0 c1 c2 L j; have := get_loc (h := (List.set (List.set (List.set h id0 c0) id1 c1) id2 c2)) (L := L) (j := j); rwa [hlen] at this
  have hgL0 : ∀ (c0 c1 c2 : AObj) (L : List AObj), ((List.set (List.set (List.set h id0 c0) id1 c1) id2 c2) ++ L)[h.length]? = L[0]? := fun c0 c1 c2 L => hgL c0 c1 c2 L 0
  have hsL : ∀ (c0 c1 c2 : AObj) (L : List AObj) (j : Nat) (x : AObj), List.set ((List.set (List.set (List.set h id0 c0) id1 c1) id2 c2) ++ L) (h.length + j) x = (List.set (List.set (List.set h id0 c0) id1 c1) id2 c2) ++ List.set L j x := by intro c0 c1 c2 L j x; have := set_loc (h := (List.set (List.set (List.set h id0 c0) id1 c1) id2 c2)) (L := L) (j := j) (o := x); rwa [hlen] at this
  have hsL0 : ∀ (c0 c1 c2 : AObj) (L : List AObj) (x : AObj), List.set ((List.set (List.set (List.set h id0 c0) id1 c1) id2 c2) ++ L) h.length x = (List.set (List.set (List.set h id0 c0) id1 c1) id2 c2) ++ List.set L 0 x := fun c0 c1 c2 L x => hsL c0 c1 c2 L 0 x
  refine wp_heap (h' := (List.set (List.set (List.set h id0 (.cells 23 [o0_0])) id1 (.cells 9 [o1_0])) id2 (.cells 26 [o2_0]))) (by rw [set_same h00, set_same h01, set_same h02]) ?_
  rw [wp_seq]
  rw [wp_region]
  simp only [RC, RL, RM, ↓evs_eq, loadN, V.slz, V.slz1, lnB, V.left, V.lenOf, slice3, sliceNil, Option.getD_none, sliceOp, cut, upon_each, buildOk, lookup, lookV, update, elemOf, Option.isSome_map, unOp, wanted, aop, tkB, neD, Env.get, Env.put, Env.keep, putD, dstOk, ev, constV, nilSlice, V.demote, V.toOwn, V.cells, ty, R1.res, binOp, isShift, binOpT, isC, intOp, strOp, shiftOp, byteV, index, indexAddr, slice, bounds, hiB, loB, withB, maxV, minV, evs, pickV, lenV, builtin, initEnv, convert, K.isU8, strOf, load, store, fieldOf, append, appT, fltOp, cpxV, realV, imagV, toInt, rangeOp, nextOp, room, fill, placeOf, splice, repl, chunks, Ty.val, Ty.agg, V.plain, H.row, H.ety, AObj.row, Nat.reduceAdd, ↓reduceIte, Nat.reduceEqDiff, Nat.reduceBEq, Nat.reduceBNe, Nat.reduceLT, Int.reduceToNat, Int.reduceEq, Int.reduceLT, Int.reduceLE, reduceCtorEq, Nat.reduceMul, Nat.reduceLeDiff, S_api_Unit.enc, S_graph_wrong.enc, hg0, hgl0, hs0, hsl0, hg1, hgl1, hs1, hsl1, hg2, hgl2, hs2, hsl2, hgL, hgL0, hsL, hsL0, hlen]
  rw [wp_cond]
  simp only [RC, RL, RM, ↓evs_eq, loadN, V.slz, V.slz1, lnB, V.left, V.lenOf, slice3, sliceNil, Option.getD_none, sliceOp, cut, upon_each, buildOk, lookup, lookV, update, elemOf, Option.isSome_map, unOp, wanted, aop, tkB, neD, Env.get, Env.put, Env.keep, putD, dstOk, ev, constV, nilSlice, V.demote, V.toOwn, V.cells, ty, R1.res, binOp, isShift, binOpT, isC, intOp, strOp, shiftOp, byteV, index, indexAddr, slice, bounds, hiB, loB, withB, maxV, minV, evs, pickV, lenV, builtin, initEnv, convert, K.isU8, strOf, load, store, fieldOf, append, appT, fltOp, cpxV, realV, imagV, toInt, rangeOp, nextOp, room, fill, placeOf, splice, repl, chunks, Ty.val, Ty.agg, V.plain, H.row, H.ety, AObj.row, Nat.reduceAdd, ↓reduceIte, Nat.reduceEqDiff, Nat.reduceBEq, Nat.reduceBNe, Nat.reduceLT, Int.reduceToNat, Int.reduceEq, Int.reduceLT, Int.reduceLE, reduceCtorEq, Nat.reduceMul, Nat.reduceLeDiff, S_api_Unit.enc, S_graph_wrong.enc, hg0, hgl0, hs0, hsl0, hg1, hgl1, hs1, hsl1, hg2, hgl2, hs2, hsl2, hgL, hgL0, hsL, hsL0, hlen]
  rw [condK_tt]
  rw [wp_seq]
  rw [wp_region]
  simp only [RC, RL, RM, ↓evs_eq, loadN, V.slz, V.slz1, lnB, V.left, V.lenOf, slice3, sliceNil, Option.getD_none, sliceOp, cut, upon_each, buildOk, lookup, lookV, update, elemOf, Option.isSome_map, unOp, wanted, aop, tkB, neD, Env.get, Env.put, Env.keep, putD, dstOk, ev, constV, nilSlice, V.demote, V.toOwn, V.cells, ty, R1.res, binOp, isShift, binOpT, isC, intOp, strOp, shiftOp, byteV, index, indexAddr, slice, bounds, hiB, loB, withB, maxV, minV, evs, pickV, lenV, builtin, initEnv, convert, K.isU8, strOf, load, store, fieldOf, append, appT, fltOp, cpxV, realV, imagV, toInt, rangeOp, nextOp, room, fill, placeOf, splice, repl, chunks, Ty.val, Ty.agg, V.plain, H.row, H.ety, AObj.row, Nat.reduceAdd, ↓reduceIte, Nat.reduceEqDiff, Nat.reduceBEq, Nat.reduceBNe, Nat.reduceLT, Int.reduceToNat, Int.reduceEq, Int.reduceLT, Int.reduceLE, reduceCtorEq, Nat.reduceMul, Nat.reduceLeDiff, S_api_Unit.enc, S_graph_wrong.enc, hg0, hgl0, hs0, hsl0, hg1, hgl1, hs1, hsl1, hg2, hgl2, hs2, hsl2, hgL, hgL0, hsL, hsL0, hlen]
  rw [wp_seq]
  rw [wp_seq]
  rw [wp_region]
  simp only [RC, RL, RM, ↓evs_eq, loadN, V.slz, V.slz1, lnB, V.left, V.lenOf, slice3, sliceNil, Option.getD_none, sliceOp, cut, upon_each, buildOk, lookup, lookV, update, elemOf, Option.isSome_map, unOp, wanted, aop, tkB, neD, Env.get, Env.put, Env.keep, putD, dstOk, ev, constV, nilSlice, V.demote, V.toOwn, V.cells, ty, R1.res, binOp, isShift, binOpT, isC, intOp, strOp, shiftOp, byteV, index, indexAddr, slice, bounds, hiB, loB, withB, maxV, minV, evs, pickV, lenV, builtin, initEnv, convert, K.isU8, strOf, load, store, fieldOf, append, appT, fltOp, cpxV, realV, imagV, toInt, rangeOp, nextOp, room, fill, placeOf, splice, repl, chunks, Ty.val, Ty.agg, V.plain, H.row, H.ety, AObj.row, Nat.reduceAdd, ↓reduceIte, Nat.reduceEqDiff, Nat.reduceBEq, Nat.reduceBNe, Nat.reduceLT, Int.reduceToNat, Int.reduceEq, Int.reduceLT, Int.reduceLE, reduceCtorEq, Nat.reduceMul, Nat.reduceLeDiff, S_api_Unit.enc, S_graph_wrong.enc, hg0, hgl0, hs0, hsl0, hg1, hgl1, hs1, hsl1, hg2, hgl2, hs2, hsl2, hgL, hgL0, hsL, hsL0, hlen]
  rw [wp_cond]
  simp only [RC, RL, RM, ↓evs_eq, loadN, V.slz, V.slz1, lnB, V.left, V.lenOf, slice3, sliceNil, Option.getD_none, sliceOp, cut, upon_each, buildOk, lookup, lookV, update, elemOf, Option.isSome_map, unOp, wanted, aop, tkB, neD, Env.get, Env.put, Env.keep, putD, dstOk, ev, constV, nilSlice, V.demote, V.toOwn, V.cells, ty, R1.res, binOp, isShift, binOpT, isC, intOp, strOp, shiftOp, byteV, index, indexAddr, slice, bounds, hiB, loB, withB, maxV, minV, evs, pickV, lenV, builtin, initEnv, convert, K.isU8, strOf, load, store, fieldOf, append, appT, fltOp, cpxV, realV, imagV, toInt, rangeOp, nextOp, room, fill, placeOf, splice, repl, chunks, Ty.val, Ty.agg, V.plain, H.row, H.ety, AObj.row, Nat.reduceAdd, ↓reduceIte, Nat.reduceEqDiff, Nat.reduceBEq, Nat.reduceBNe, Nat.reduceLT, Int.reduceToNat, Int.reduceEq, Int.reduceLT, Int.reduceLE, reduceCtorEq, Nat.reduceMul, Nat.reduceLeDiff, S_api_Unit.enc, S_graph_wrong.enc, hg0, hgl0, hs0, hsl0, hg1, hgl1, hs1, hsl1, hg2, hgl2, hs2, hsl2, hgL, hgL0, hsL, hsL0, hlen]
  rw [condK_ff]
  try simp only [wp_skip, RC]
  refine Wk.same ?_
  try simp only [RC]
  refine wp_drawAll_at [(0, .ref id0 0), (1, .ref id1 0), (2, .ref id2 0), (3, .iface 44 (.agg [.str p.path, .int .i64 p.e])), (4, .ref h.length 0), (5, .bool true), (8, .bool true), (15, .bool false)] ((List.set (List.set (List.set h id0 (.cells 23 [.own 9 1 []])) id1 (.cells 9 [.str p.path])) id2 (.cells 26 [.int .i64 p.e])) ++ [.cells 44 [.str p.path, .int .i64 p.e]]) (by kernel_rfl) (by kernel_rfl) (os := [[0, 1, 2, 3, 4, 5, 6], [0, 1, 2, 4, 3, 5, 6], [0, 1, 2, 4, 5, 3, 6], [0, 1, 4, 2, 3, 5, 6], [0, 1, 4, 2, 5, 3, 6], [0, 1, 4, 5, 2, 3, 6], [0, 2, 1, 3, 4, 5, 6], [0, 2, 1, 4, 3, 5, 6], [0, 2, 1, 4, 5, 3, 6], [0, 2, 3, 1, 4, 5, 6], [0, 2, 3, 4, 1, 5, 6], [0, 2, 4, 1, 3, 5, 6], [0, 2, 4, 1, 5, 3, 6], [0, 2, 4, 3, 1, 5, 6], [0, 4, 1, 2, 3, 5, 6], [0, 4, 1, 2, 5, 3, 6], [0, 4, 1, 5, 2, 3, 6], [0, 4, 2, 1, 3, 5, 6], [0, 4, 2, 1, 5, 3, 6], [0, 4, 2, 3, 1, 5, 6], [2, 0, 1, 3, 4, 5, 6], [2, 0, 1, 4, 3, 5, 6], [2, 0, 1, 4, 5, 3, 6], [2, 0, 3, 1, 4, 5, 6], [2, 0, 3, 4, 1, 5, 6], [2, 0, 4, 1, 3, 5, 6], [2, 0, 4, 1, 5, 3, 6], [2, 0, 4, 3, 1, 5, 6], [2, 3, 0, 1, 4, 5, 6], [2, 3, 0, 4, 1, 5, 6], [2, 3, 4, 0, 1, 5, 6], [2, 4, 0, 1, 3, 5, 6], [2, 4, 0, 1, 5, 3, 6], [2, 4, 0, 3, 1, 5, 6], [2, 4, 3, 0, 1, 5, 6], [4, 0, 1, 2, 3, 5, 6], [4, 0, 1, 2, 5, 3, 6], [4, 0, 1, 5, 2, 3, 6], [4, 0, 2, 1, 3, 5, 6], [4, 0, 2, 1, 5, 3, 6], [4, 0, 2, 3, 1, 5, 6], [4, 2, 0, 1, 3, 5, 6], [4, 2, 0, 1, 5, 3, 6], [4, 2, 0, 3, 1, 5, 6], [4, 2, 3, 0, 1, 5, 6]]) (by kernel_rfl) (by kernel_rfl) ?_ ?_
  · intro q hq_
    simp only [List.mem_cons, List.not_mem_nil, or_false] at hq_
    rcases hq_ with rfl | rfl | rfl | rfl | rfl | rfl | rfl | rfl | rfl | rfl | rfl | rfl | rfl | rfl | rfl | rfl | rfl | rfl | rfl | rfl | rfl | rfl | rfl | rfl | rfl | rfl | rfl | rfl | rfl | rfl | rfl | rfl | rfl | rfl | rfl | rfl | rfl | rfl | rfl | rfl | rfl | rfl | rfl | rfl | rfl
    all_goals simp only [List.map_cons, List.map_nil, List.getD_cons_zero, List.getD_cons_succ, RC, RL, RM, ↓evs_eq, loadN, V.slz, V.slz1, lnB, V.left, V.lenOf, slice3, sliceNil, Option.getD_none, sliceOp, cut, upon_each, buildOk, lookup, lookV, update, elemOf, Option.isSome_map, unOp, wanted, aop, tkB, neD, Env.get, Env.put, Env.keep, putD, dstOk, ev, constV, nilSlice, V.demote, V.toOwn, V.cells, ty, R1.res, binOp, isShift, binOpT, isC, intOp, strOp, shiftOp, byteV, index, indexAddr, slice, bounds, hiB, loB, withB, maxV, minV, evs, pickV, lenV, builtin, initEnv, convert, K.isU8, strOf, load, store, fieldOf, append, appT, fltOp, cpxV, realV, imagV, toInt, rangeOp, nextOp, room, fill, placeOf, splice, repl, chunks, Ty.val, Ty.agg, V.plain, H.row, H.ety, AObj.row, Nat.reduceAdd, ↓reduceIte, Nat.reduceEqDiff, Nat.reduceBEq, Nat.reduceBNe, Nat.reduceLT, Int.reduceToNat, Int.reduceEq, Int.reduceLT, Int.reduceLE, reduceCtorEq, Nat.reduceMul, Nat.reduceLeDiff, S_api_Unit.enc, S_graph_wrong.enc, hg0, hgl0, hs0, hsl0, hg1, hgl1, hs1, hsl1, hg2, hgl2, hs2, hsl2, hgL, hgL0, hsL, hsL0, hlen]
    all_goals exact ⟨rfl, rfl⟩
  · try simp only [RC]
    refine Wk.dropA0 (New := [.cells 44 [.str p.path, .int .i64 p.e]]) (by simp only [List.length_set]) (okA_setC (okA_setC (okA_setC (okA_base _ _) (cl_cons (.own _ _ _ cl_nil) cl_nil)) (cl_cons (.str _) cl_nil)) (cl_cons (.int _ _) cl_nil)) (EnvLe.cons (.top _) (EnvLe.cons (.top _) (EnvLe.cons (.top _) (EnvLe.cons (.top _) (EnvLe.cons (.top _) (EnvLe.cons (.top _) (EnvLe.cons (.top _) (EnvLe.cons (.top _) EnvLe.nil)))))))) (EnvCl.cons .top (EnvCl.cons .top (EnvCl.cons .top (EnvCl.cons .top (EnvCl.cons .top (EnvCl.cons .top (EnvCl.cons .top (EnvCl.cons .top (EnvCl.nil _))))))))) ?_
    try simp only [RC]
    first | rw [closeQ_n] | rw [closeQ_r]
    have hKr := hK _ hq []
    rw [List.append_nil] at hKr
    exact hKr
end Go.Proofs.Ytmaabgkgjknhpaa.Pv
