/- Functions of the program, as plain Lean functions, and that the code comes to them: printed by gen.py. -/
import Derived.Test.YtmaabgkgjknhpaaG0
set_option linter.unusedVariables false
set_option linter.unusedSimpArgs false
set_option maxHeartbeats 4000000
set_option maxRecDepth 10000
namespace Go.Proofs.Ytmaabgkgjknhpaa.Pv
open Go Go.Proofs

def glossarylaw10_few_j0 : R (Bool) :=
  R.ok true
def glossarylaw10_few_l1 (x0 : List S_api_Unit) : Nat → Int → R ((Unit) ⊕ (Bool))
  | 0, _ => R.stuck
  | k + 1, x10_50 => if x10_50 < (List.length x0 : Int) then (if 0 ≤ x10_50 ∧ x10_50 < (List.length x0 : Int) then ((if (30 : Int) < (List.length ((gt x0 x10_50).Deps) : Int) then (R.ok true) else (R.ok (decide ((30 : Int) < (List.length ((gt x0 x10_50).Public) : Int))))).bind fun x23m68 => if x23m68 = true then (R.ok (.inr false)) else (glossarylaw10_few_l1 x0 k (IntKind.wrap .i64 (x10_50 + 1)))) else R.stuck) else (R.ok (.inl ()))
def glossarylaw10_few (x0 : List S_api_Unit) : R (Bool) :=
  if (30 : Int) < (List.length x0 : Int) then (R.ok false) else ((glossarylaw10_few_l1 x0 Many 0).bind fun | (.inl _) => glossarylaw10_few_j0 | (.inr rp76) => R.ok rp76)
theorem glossarylaw10_few_call {h : H} {x0 : List S_api_Unit} {Q : Out → H → Prop} {KK : (Bool) → Prop} {X : V → Prop} (hq : (glossarylaw10_few x0).post KK X) (hK : ∀ r, KK r → Q (.ret (.bool r)) h) (hX : ∀ v, X v → V.Cl 0 v ∧ Q (.panic v) h) : CA qprim 10 [.sl 3 (List.map S_api_Unit.enc x0)] h Q := by
  refine acalln hp Try.func10 rfl (by kernel_rfl) (n := 25) rfl (rs := [.tmp 2]) rfl [0, 2, 4, 7, 8, 9, 10, 11, 23] [] true (by simp) ?_
  unfold glossarylaw10_few at hq
  simp only [initEnv, List.map_cons, List.map_nil, List.getD_cons_zero, List.getD_cons_succ, List.getD_nil, V.demote]
  rw [wp_seq]
  refine wp_region_i (by rfl) ?_
  simp only [RC, RL, RM, ↓evs_eq, loadN, V.slz, V.slz1, lnB, V.left, V.lenOf, slice3, sliceNil, Option.getD_none, Option.getD_some, sliceOp, cut, upon_each, nextM, entryOp, buildOk, lookup, lookV, update, elemOf, Option.isSome_map, unOp, wanted, aop, tkB, neD, Env.get, Env.put, Env.keep, putD, dstOk, ev, constV, nilSlice, V.demote, V.toOwn, V.cells, ty, R1.res, binOp, isShift, binOpT, isC, intOp, strOp, shiftOp, byteV, index, indexAddr, slice, bounds, hiB, loB, withB, maxV, minV, evs, pickV, lenV, builtin, initEnv, convert, K.isU8, strOf, load, store, fieldOf, append, appT, fltOp, cpxV, realV, imagV, toInt, rangeOp, nextOp, room, fill, placeOf, splice, repl, chunks, Ty.val, Ty.agg, V.plain, H.row, H.ety, AObj.row, Nat.reduceAdd, ↓reduceIte, Nat.reduceEqDiff, Nat.reduceBEq, Nat.reduceBNe, Nat.reduceLT, Int.reduceToNat, Int.reduceEq, Int.reduceLT, Int.reduceLE, reduceCtorEq, Nat.reduceMul, Nat.reduceLeDiff, S_api_Unit.enc, S_graph_wrong.enc]
  rw [wp_seq]
  rw [wp_seq]
  refine wp_region_i (by rfl) ?_
  simp only [RC, RL, RM, ↓evs_eq, loadN, V.slz, V.slz1, lnB, V.left, V.lenOf, slice3, sliceNil, Option.getD_none, Option.getD_some, sliceOp, cut, upon_each, nextM, entryOp, buildOk, lookup, lookV, update, elemOf, Option.isSome_map, unOp, wanted, aop, tkB, neD, Env.get, Env.put, Env.keep, putD, dstOk, ev, constV, nilSlice, V.demote, V.toOwn, V.cells, ty, R1.res, binOp, isShift, binOpT, isC, intOp, strOp, shiftOp, byteV, index, indexAddr, slice, bounds, hiB, loB, withB, maxV, minV, evs, pickV, lenV, builtin, initEnv, convert, K.isU8, strOf, load, store, fieldOf, append, appT, fltOp, cpxV, realV, imagV, toInt, rangeOp, nextOp, room, fill, placeOf, splice, repl, chunks, Ty.val, Ty.agg, V.plain, H.row, H.ety, AObj.row, Nat.reduceAdd, ↓reduceIte, Nat.reduceEqDiff, Nat.reduceBEq, Nat.reduceBNe, Nat.reduceLT, Int.reduceToNat, Int.reduceEq, Int.reduceLT, Int.reduceLE, reduceCtorEq, Nat.reduceMul, Nat.reduceLeDiff, S_api_Unit.enc, S_graph_wrong.enc]
  rw [wp_cond]
  simp only [RC, RL, RM, ↓evs_eq, loadN, V.slz, V.slz1, lnB, V.left, V.lenOf, slice3, sliceNil, Option.getD_none, Option.getD_some, sliceOp, cut, upon_each, nextM, entryOp, buildOk, lookup, lookV, update, elemOf, Option.isSome_map, unOp, wanted, aop, tkB, neD, Env.get, Env.put, Env.keep, putD, dstOk, ev, constV, nilSlice, V.demote, V.toOwn, V.cells, ty, R1.res, binOp, isShift, binOpT, isC, intOp, strOp, shiftOp, byteV, index, indexAddr, slice, bounds, hiB, loB, withB, maxV, minV, evs, pickV, lenV, builtin, initEnv, convert, K.isU8, strOf, load, store, fieldOf, append, appT, fltOp, cpxV, realV, imagV, toInt, rangeOp, nextOp, room, fill, placeOf, splice, repl, chunks, Ty.val, Ty.agg, V.plain, H.row, H.ety, AObj.row, Nat.reduceAdd, ↓reduceIte, Nat.reduceEqDiff, Nat.reduceBEq, Nat.reduceBNe, Nat.reduceLT, Int.reduceToNat, Int.reduceEq, Int.reduceLT, Int.reduceLE, reduceCtorEq, Nat.reduceMul, Nat.reduceLeDiff, S_api_Unit.enc, S_graph_wrong.enc]
  by_cases hc2 : (30 : Int) < (List.length x0 : Int)
  · replace hq := (R.post_if hq).1 hc2
    refine condK_t (congrArg V.bool (decide_eq_true hc2)) ?_
    rw [wp_seq]
    refine wp_region_i (by rfl) ?_
    simp only [RC, RL, RM, ↓evs_eq, loadN, V.slz, V.slz1, lnB, V.left, V.lenOf, slice3, sliceNil, Option.getD_none, Option.getD_some, sliceOp, cut, upon_each, nextM, entryOp, buildOk, lookup, lookV, update, elemOf, Option.isSome_map, unOp, wanted, aop, tkB, neD, Env.get, Env.put, Env.keep, putD, dstOk, ev, constV, nilSlice, V.demote, V.toOwn, V.cells, ty, R1.res, binOp, isShift, binOpT, isC, intOp, strOp, shiftOp, byteV, index, indexAddr, slice, bounds, hiB, loB, withB, maxV, minV, evs, pickV, lenV, builtin, initEnv, convert, K.isU8, strOf, load, store, fieldOf, append, appT, fltOp, cpxV, realV, imagV, toInt, rangeOp, nextOp, room, fill, placeOf, splice, repl, chunks, Ty.val, Ty.agg, V.plain, H.row, H.ety, AObj.row, Nat.reduceAdd, ↓reduceIte, Nat.reduceEqDiff, Nat.reduceBEq, Nat.reduceBNe, Nat.reduceLT, Int.reduceToNat, Int.reduceEq, Int.reduceLT, Int.reduceLE, reduceCtorEq, Nat.reduceMul, Nat.reduceLeDiff, S_api_Unit.enc, S_graph_wrong.enc]
    rw [wp_ret]
    simp only [retQ, results, resultAll, resultOne, Nat.zero_add, scopeQ, RC, RL, RM, ↓evs_eq, loadN, V.slz, V.slz1, lnB, V.left, V.lenOf, slice3, sliceNil, Option.getD_none, Option.getD_some, sliceOp, cut, upon_each, nextM, entryOp, buildOk, lookup, lookV, update, elemOf, Option.isSome_map, unOp, wanted, aop, tkB, neD, Env.get, Env.put, Env.keep, putD, dstOk, ev, constV, nilSlice, V.demote, V.toOwn, V.cells, ty, R1.res, binOp, isShift, binOpT, isC, intOp, strOp, shiftOp, byteV, index, indexAddr, slice, bounds, hiB, loB, withB, maxV, minV, evs, pickV, lenV, builtin, initEnv, convert, K.isU8, strOf, load, store, fieldOf, append, appT, fltOp, cpxV, realV, imagV, toInt, rangeOp, nextOp, room, fill, placeOf, splice, repl, chunks, Ty.val, Ty.agg, V.plain, H.row, H.ety, AObj.row, Nat.reduceAdd, ↓reduceIte, Nat.reduceEqDiff, Nat.reduceBEq, Nat.reduceBNe, Nat.reduceLT, Int.reduceToNat, Int.reduceEq, Int.reduceLT, Int.reduceLE, reduceCtorEq, Nat.reduceMul, Nat.reduceLeDiff, S_api_Unit.enc, S_graph_wrong.enc]
    refine ⟨_, (.refl _), ?_⟩
    refine leave_ok0 rfl (.bool _) ?_
    exact hK _ hq
  · replace hq := (R.post_if hq).2 hc2
    refine condK_f (congrArg V.bool (decide_eq_false hc2)) ?_
    try simp only [wp_skip, RC]
    refine Wk.same ?_
    try simp only [RC]
    refine seq_gen (acall_mono hp) (σ := V × V × V × V × V × V × V × V × V) (fun s => [(0, s.1), (2, s.2.1), (4, s.2.2.1), (7, s.2.2.2.1), (8, s.2.2.2.2.1), (9, s.2.2.2.2.2.1), (10, s.2.2.2.2.2.2.1), (11, s.2.2.2.2.2.2.2.1), (23, s.2.2.2.2.2.2.2.2)]) (fun s => h) (fun s => (glossarylaw10_few_j0).post KK X) (fun s hq => ?_) (fun N hN40 => ?_)
    · obtain ⟨y0_39, y2_39, y4_39, y7_39, y8_39, y9_39, y10_39, y11_39, y23_39⟩ := s
      try dsimp only at hq ⊢
      unfold glossarylaw10_few_j0 at hq
      rw [wp_seq]
      refine wp_region_i (by rfl) ?_
      simp only [RC, RL, RM, ↓evs_eq, loadN, V.slz, V.slz1, lnB, V.left, V.lenOf, slice3, sliceNil, Option.getD_none, Option.getD_some, sliceOp, cut, upon_each, nextM, entryOp, buildOk, lookup, lookV, update, elemOf, Option.isSome_map, unOp, wanted, aop, tkB, neD, Env.get, Env.put, Env.keep, putD, dstOk, ev, constV, nilSlice, V.demote, V.toOwn, V.cells, ty, R1.res, binOp, isShift, binOpT, isC, intOp, strOp, shiftOp, byteV, index, indexAddr, slice, bounds, hiB, loB, withB, maxV, minV, evs, pickV, lenV, builtin, initEnv, convert, K.isU8, strOf, load, store, fieldOf, append, appT, fltOp, cpxV, realV, imagV, toInt, rangeOp, nextOp, room, fill, placeOf, splice, repl, chunks, Ty.val, Ty.agg, V.plain, H.row, H.ety, AObj.row, Nat.reduceAdd, ↓reduceIte, Nat.reduceEqDiff, Nat.reduceBEq, Nat.reduceBNe, Nat.reduceLT, Int.reduceToNat, Int.reduceEq, Int.reduceLT, Int.reduceLE, reduceCtorEq, Nat.reduceMul, Nat.reduceLeDiff, S_api_Unit.enc, S_graph_wrong.enc]
      rw [wp_ret]
      simp only [retQ, results, resultAll, resultOne, Nat.zero_add, scopeQ, RC, RL, RM, ↓evs_eq, loadN, V.slz, V.slz1, lnB, V.left, V.lenOf, slice3, sliceNil, Option.getD_none, Option.getD_some, sliceOp, cut, upon_each, nextM, entryOp, buildOk, lookup, lookV, update, elemOf, Option.isSome_map, unOp, wanted, aop, tkB, neD, Env.get, Env.put, Env.keep, putD, dstOk, ev, constV, nilSlice, V.demote, V.toOwn, V.cells, ty, R1.res, binOp, isShift, binOpT, isC, intOp, strOp, shiftOp, byteV, index, indexAddr, slice, bounds, hiB, loB, withB, maxV, minV, evs, pickV, lenV, builtin, initEnv, convert, K.isU8, strOf, load, store, fieldOf, append, appT, fltOp, cpxV, realV, imagV, toInt, rangeOp, nextOp, room, fill, placeOf, splice, repl, chunks, Ty.val, Ty.agg, V.plain, H.row, H.ety, AObj.row, Nat.reduceAdd, ↓reduceIte, Nat.reduceEqDiff, Nat.reduceBEq, Nat.reduceBNe, Nat.reduceLT, Int.reduceToNat, Int.reduceEq, Int.reduceLT, Int.reduceLE, reduceCtorEq, Nat.reduceMul, Nat.reduceLeDiff, S_api_Unit.enc, S_graph_wrong.enc]
      refine ⟨_, (.refl _), ?_⟩
      refine leave_ok0 rfl (.bool _) ?_
      exact hK _ hq
    · rw [wp_seq]
      refine wp_region_i (by rfl) ?_
      simp only [RC, RL, RM, ↓evs_eq, loadN, V.slz, V.slz1, lnB, V.left, V.lenOf, slice3, sliceNil, Option.getD_none, Option.getD_some, sliceOp, cut, upon_each, nextM, entryOp, buildOk, lookup, lookV, update, elemOf, Option.isSome_map, unOp, wanted, aop, tkB, neD, Env.get, Env.put, Env.keep, putD, dstOk, ev, constV, nilSlice, V.demote, V.toOwn, V.cells, ty, R1.res, binOp, isShift, binOpT, isC, intOp, strOp, shiftOp, byteV, index, indexAddr, slice, bounds, hiB, loB, withB, maxV, minV, evs, pickV, lenV, builtin, initEnv, convert, K.isU8, strOf, load, store, fieldOf, append, appT, fltOp, cpxV, realV, imagV, toInt, rangeOp, nextOp, room, fill, placeOf, splice, repl, chunks, Ty.val, Ty.agg, V.plain, H.row, H.ety, AObj.row, Nat.reduceAdd, ↓reduceIte, Nat.reduceEqDiff, Nat.reduceBEq, Nat.reduceBNe, Nat.reduceLT, Int.reduceToNat, Int.reduceEq, Int.reduceLT, Int.reduceLE, reduceCtorEq, Nat.reduceMul, Nat.reduceLeDiff, S_api_Unit.enc, S_graph_wrong.enc]
      rw [wp_block]
      refine loop_in ?_
      refine Wk.le (EnvLe.cons (.top _) (EnvLe.cons (.top _) (EnvLe.cons (.refl _) (EnvLe.cons (.top _) (EnvLe.cons (.refl _) (EnvLe.cons (.refl _) (EnvLe.cons (.refl _) (EnvLe.cons (.refl _) (EnvLe.cons (.refl _) EnvLe.nil))))))))) ?_
      obtain ⟨K59, hK60, hq⟩ := R.post_cut hq
      refine loop_gen (acall_mono hp) (σ := V × V × V × V × Int × V × V) (fun s => [(0, s.1), (2, s.2.1), (4, s.2.2.1), (7, s.2.2.2.1), (8, .sl 3 (List.map S_api_Unit.enc x0)), (9, .int .i64 (List.length x0 : Int)), (10, .int .i64 s.2.2.2.2.1), (11, s.2.2.2.2.2.1), (23, s.2.2.2.2.2.2)]) (fun s => h) (fun k s => (glossarylaw10_few_l1 x0 k s.2.2.2.2.1).post K59 X) (fun s hs => hs) (fun k74 s hq N hN61 => ?_) _ (_, _, _, _, 0, _, _) hq
      obtain ⟨y0_50, y2_50, y4_50, y7_50, x10_50, y11_50, y23_50⟩ := s
      try dsimp only at hq ⊢
      rw [glossarylaw10_few_l1] at hq
      rw [wp_seq]
      refine wp_region_i (by rfl) ?_
      simp only [RC, RL, RM, ↓evs_eq, loadN, V.slz, V.slz1, lnB, V.left, V.lenOf, slice3, sliceNil, Option.getD_none, Option.getD_some, sliceOp, cut, upon_each, nextM, entryOp, buildOk, lookup, lookV, update, elemOf, Option.isSome_map, unOp, wanted, aop, tkB, neD, Env.get, Env.put, Env.keep, putD, dstOk, ev, constV, nilSlice, V.demote, V.toOwn, V.cells, ty, R1.res, binOp, isShift, binOpT, isC, intOp, strOp, shiftOp, byteV, index, indexAddr, slice, bounds, hiB, loB, withB, maxV, minV, evs, pickV, lenV, builtin, initEnv, convert, K.isU8, strOf, load, store, fieldOf, append, appT, fltOp, cpxV, realV, imagV, toInt, rangeOp, nextOp, room, fill, placeOf, splice, repl, chunks, Ty.val, Ty.agg, V.plain, H.row, H.ety, AObj.row, Nat.reduceAdd, ↓reduceIte, Nat.reduceEqDiff, Nat.reduceBEq, Nat.reduceBNe, Nat.reduceLT, Int.reduceToNat, Int.reduceEq, Int.reduceLT, Int.reduceLE, reduceCtorEq, Nat.reduceMul, Nat.reduceLeDiff, S_api_Unit.enc, S_graph_wrong.enc]
      rw [wp_seq]
      rw [wp_cond]
      simp only [RC, RL, RM, ↓evs_eq, loadN, V.slz, V.slz1, lnB, V.left, V.lenOf, slice3, sliceNil, Option.getD_none, Option.getD_some, sliceOp, cut, upon_each, nextM, entryOp, buildOk, lookup, lookV, update, elemOf, Option.isSome_map, unOp, wanted, aop, tkB, neD, Env.get, Env.put, Env.keep, putD, dstOk, ev, constV, nilSlice, V.demote, V.toOwn, V.cells, ty, R1.res, binOp, isShift, binOpT, isC, intOp, strOp, shiftOp, byteV, index, indexAddr, slice, bounds, hiB, loB, withB, maxV, minV, evs, pickV, lenV, builtin, initEnv, convert, K.isU8, strOf, load, store, fieldOf, append, appT, fltOp, cpxV, realV, imagV, toInt, rangeOp, nextOp, room, fill, placeOf, splice, repl, chunks, Ty.val, Ty.agg, V.plain, H.row, H.ety, AObj.row, Nat.reduceAdd, ↓reduceIte, Nat.reduceEqDiff, Nat.reduceBEq, Nat.reduceBNe, Nat.reduceLT, Int.reduceToNat, Int.reduceEq, Int.reduceLT, Int.reduceLE, reduceCtorEq, Nat.reduceMul, Nat.reduceLeDiff, S_api_Unit.enc, S_graph_wrong.enc]
      by_cases hc62 : x10_50 < (List.length x0 : Int)
      · replace hq := (R.post_if hq).1 hc62
        refine condK_t (congrArg V.bool (decide_eq_true hc62)) ?_
        try simp only [wp_skip, RC]
        refine Wk.same ?_
        try simp only [RC]
        rw [wp_seq]
        rw [wp_block]
        rw [wp_seq]
        refine wp_region_i (by rfl) ?_
        obtain ⟨g65, hq⟩ := R.guard hq
        have e66 := map_gt (f := S_api_Unit.enc) (l := x0) (i := x10_50) g65
        simp only [e66, RC, RL, RM, ↓evs_eq, loadN, V.slz, V.slz1, lnB, V.left, V.lenOf, slice3, sliceNil, Option.getD_none, Option.getD_some, sliceOp, cut, upon_each, nextM, entryOp, buildOk, lookup, lookV, update, elemOf, Option.isSome_map, unOp, wanted, aop, tkB, neD, Env.get, Env.put, Env.keep, putD, dstOk, ev, constV, nilSlice, V.demote, V.toOwn, V.cells, ty, R1.res, binOp, isShift, binOpT, isC, intOp, strOp, shiftOp, byteV, index, indexAddr, slice, bounds, hiB, loB, withB, maxV, minV, evs, pickV, lenV, builtin, initEnv, convert, K.isU8, strOf, load, store, fieldOf, append, appT, fltOp, cpxV, realV, imagV, toInt, rangeOp, nextOp, room, fill, placeOf, splice, repl, chunks, Ty.val, Ty.agg, V.plain, H.row, H.ety, AObj.row, Nat.reduceAdd, ↓reduceIte, Nat.reduceEqDiff, Nat.reduceBEq, Nat.reduceBNe, Nat.reduceLT, Int.reduceToNat, Int.reduceEq, Int.reduceLT, Int.reduceLE, reduceCtorEq, Nat.reduceMul, Nat.reduceLeDiff, S_api_Unit.enc, S_graph_wrong.enc]
        repeat (with_reducible refine And.intro (by first | omega | assumption) ?_)
        obtain ⟨K69, hK70, hq⟩ := R.post_cut hq
        refine seq_gen (acall_mono hp) (σ := Bool) (fun s => [(0, y0_50), (2, y2_50), (4, .ref h.length 0), (7, y7_50), (8, .sl 3 (List.map S_api_Unit.enc x0)), (9, .int .i64 (List.length x0 : Int)), (10, .int .i64 x10_50), (11, .bool (decide (x10_50 < (List.length x0 : Int)))), (23, .bool s)]) (fun s => h ++ [.cells 39 [.str (gt x0 x10_50).Path, .sl 1 (List.map V.str (gt x0 x10_50).Deps), .sl 1 (List.map (V.int .i64) (gt x0 x10_50).Public)]]) (fun s => K69 s) (fun x23m68 hq => ?_) (fun N hN71 => ?_)
        · replace hq := hK70 _ hq
          try dsimp only at hq ⊢
          rw [wp_cond]
          simp only [RC, RL, RM, ↓evs_eq, loadN, V.slz, V.slz1, lnB, V.left, V.lenOf, slice3, sliceNil, Option.getD_none, Option.getD_some, sliceOp, cut, upon_each, nextM, entryOp, buildOk, lookup, lookV, update, elemOf, Option.isSome_map, unOp, wanted, aop, tkB, neD, Env.get, Env.put, Env.keep, putD, dstOk, ev, constV, nilSlice, V.demote, V.toOwn, V.cells, ty, R1.res, binOp, isShift, binOpT, isC, intOp, strOp, shiftOp, byteV, index, indexAddr, slice, bounds, hiB, loB, withB, maxV, minV, evs, pickV, lenV, builtin, initEnv, convert, K.isU8, strOf, load, store, fieldOf, append, appT, fltOp, cpxV, realV, imagV, toInt, rangeOp, nextOp, room, fill, placeOf, splice, repl, chunks, Ty.val, Ty.agg, V.plain, H.row, H.ety, AObj.row, Nat.reduceAdd, ↓reduceIte, Nat.reduceEqDiff, Nat.reduceBEq, Nat.reduceBNe, Nat.reduceLT, Int.reduceToNat, Int.reduceEq, Int.reduceLT, Int.reduceLE, reduceCtorEq, Nat.reduceMul, Nat.reduceLeDiff, S_api_Unit.enc, S_graph_wrong.enc]
          by_cases hc73 : x23m68 = true
          · replace hq := (R.post_if hq).1 hc73
            refine condK_t (congrArg V.bool (hc73)) ?_
            rw [wp_seq]
            refine wp_region_i (by rfl) ?_
            simp only [RC, RL, RM, ↓evs_eq, loadN, V.slz, V.slz1, lnB, V.left, V.lenOf, slice3, sliceNil, Option.getD_none, Option.getD_some, sliceOp, cut, upon_each, nextM, entryOp, buildOk, lookup, lookV, update, elemOf, Option.isSome_map, unOp, wanted, aop, tkB, neD, Env.get, Env.put, Env.keep, putD, dstOk, ev, constV, nilSlice, V.demote, V.toOwn, V.cells, ty, R1.res, binOp, isShift, binOpT, isC, intOp, strOp, shiftOp, byteV, index, indexAddr, slice, bounds, hiB, loB, withB, maxV, minV, evs, pickV, lenV, builtin, initEnv, convert, K.isU8, strOf, load, store, fieldOf, append, appT, fltOp, cpxV, realV, imagV, toInt, rangeOp, nextOp, room, fill, placeOf, splice, repl, chunks, Ty.val, Ty.agg, V.plain, H.row, H.ety, AObj.row, Nat.reduceAdd, ↓reduceIte, Nat.reduceEqDiff, Nat.reduceBEq, Nat.reduceBNe, Nat.reduceLT, Int.reduceToNat, Int.reduceEq, Int.reduceLT, Int.reduceLE, reduceCtorEq, Nat.reduceMul, Nat.reduceLeDiff, S_api_Unit.enc, S_graph_wrong.enc]
            rw [wp_ret]
            simp only [retQ, results, resultAll, resultOne, Nat.zero_add, scopeQ, RC, RL, RM, ↓evs_eq, loadN, V.slz, V.slz1, lnB, V.left, V.lenOf, slice3, sliceNil, Option.getD_none, Option.getD_some, sliceOp, cut, upon_each, nextM, entryOp, buildOk, lookup, lookV, update, elemOf, Option.isSome_map, unOp, wanted, aop, tkB, neD, Env.get, Env.put, Env.keep, putD, dstOk, ev, constV, nilSlice, V.demote, V.toOwn, V.cells, ty, R1.res, binOp, isShift, binOpT, isC, intOp, strOp, shiftOp, byteV, index, indexAddr, slice, bounds, hiB, loB, withB, maxV, minV, evs, pickV, lenV, builtin, initEnv, convert, K.isU8, strOf, load, store, fieldOf, append, appT, fltOp, cpxV, realV, imagV, toInt, rangeOp, nextOp, room, fill, placeOf, splice, repl, chunks, Ty.val, Ty.agg, V.plain, H.row, H.ety, AObj.row, Nat.reduceAdd, ↓reduceIte, Nat.reduceEqDiff, Nat.reduceBEq, Nat.reduceBNe, Nat.reduceLT, Int.reduceToNat, Int.reduceEq, Int.reduceLT, Int.reduceLE, reduceCtorEq, Nat.reduceMul, Nat.reduceLeDiff, S_api_Unit.enc, S_graph_wrong.enc]
            refine ⟨_, (.refl _), ?_⟩
            refine leave_ok rfl (.bool _) ?_
            replace hq := hK60 _ hq
            exact hK _ hq
          · replace hq := (R.post_if hq).2 hc73
            replace hc73 := eq_false_of_ne_true hc73
            refine condK_f (congrArg V.bool (hc73)) ?_
            try simp only [wp_skip, RC]
            refine Wk.same ?_
            try simp only [RC]
            refine Wk.drop0 (by rfl) (EnvLe.cons (.top _) (EnvLe.cons (.top _) (EnvLe.cons (.top _) (EnvLe.cons (.top _) (EnvLe.cons (.refl _) (EnvLe.cons (.refl _) (EnvLe.cons (.refl _) (EnvLe.cons (.top _) (EnvLe.cons (.top _) EnvLe.nil))))))))) (EnvCl.cons .top (EnvCl.cons .top (EnvCl.cons .top (EnvCl.cons .top (EnvCl.cons (.sl _ _ (cl_map (S_api_Unit.cl _))) (EnvCl.cons (.int _ _) (EnvCl.cons (.int _ _) (EnvCl.cons .top (EnvCl.cons .top (EnvCl.nil _)))))))))) ?_
            try simp only [RC]
            refine wp_region_i (by rfl) ?_
            simp only [RC, RL, RM, ↓evs_eq, loadN, V.slz, V.slz1, lnB, V.left, V.lenOf, slice3, sliceNil, Option.getD_none, Option.getD_some, sliceOp, cut, upon_each, nextM, entryOp, buildOk, lookup, lookV, update, elemOf, Option.isSome_map, unOp, wanted, aop, tkB, neD, Env.get, Env.put, Env.keep, putD, dstOk, ev, constV, nilSlice, V.demote, V.toOwn, V.cells, ty, R1.res, binOp, isShift, binOpT, isC, intOp, strOp, shiftOp, byteV, index, indexAddr, slice, bounds, hiB, loB, withB, maxV, minV, evs, pickV, lenV, builtin, initEnv, convert, K.isU8, strOf, load, store, fieldOf, append, appT, fltOp, cpxV, realV, imagV, toInt, rangeOp, nextOp, room, fill, placeOf, splice, repl, chunks, Ty.val, Ty.agg, V.plain, H.row, H.ety, AObj.row, Nat.reduceAdd, ↓reduceIte, Nat.reduceEqDiff, Nat.reduceBEq, Nat.reduceBNe, Nat.reduceLT, Int.reduceToNat, Int.reduceEq, Int.reduceLT, Int.reduceLE, reduceCtorEq, Nat.reduceMul, Nat.reduceLeDiff, S_api_Unit.enc, S_graph_wrong.enc]
            refine Wk.same ?_
            exact hN61 (_, _, _, _, (IntKind.wrap .i64 (x10_50 + 1)), _, _) hq
        · refine wp_region_i (by rfl) ?_
          simp only [RC, RL, RM, ↓evs_eq, loadN, V.slz, V.slz1, lnB, V.left, V.lenOf, slice3, sliceNil, Option.getD_none, Option.getD_some, sliceOp, cut, upon_each, nextM, entryOp, buildOk, lookup, lookV, update, elemOf, Option.isSome_map, unOp, wanted, aop, tkB, neD, Env.get, Env.put, Env.keep, putD, dstOk, ev, constV, nilSlice, V.demote, V.toOwn, V.cells, ty, R1.res, binOp, isShift, binOpT, isC, intOp, strOp, shiftOp, byteV, index, indexAddr, slice, bounds, hiB, loB, withB, maxV, minV, evs, pickV, lenV, builtin, initEnv, convert, K.isU8, strOf, load, store, fieldOf, append, appT, fltOp, cpxV, realV, imagV, toInt, rangeOp, nextOp, room, fill, placeOf, splice, repl, chunks, Ty.val, Ty.agg, V.plain, H.row, H.ety, AObj.row, Nat.reduceAdd, ↓reduceIte, Nat.reduceEqDiff, Nat.reduceBEq, Nat.reduceBNe, Nat.reduceLT, Int.reduceToNat, Int.reduceEq, Int.reduceLT, Int.reduceLE, reduceCtorEq, Nat.reduceMul, Nat.reduceLeDiff, S_api_Unit.enc, S_graph_wrong.enc]
          by_cases hc72 : (30 : Int) < (List.length ((gt x0 x10_50).Deps) : Int)
          · replace hq := (R.post_if hq).1 hc72
            simp only [decide_eq_true hc72, RC, RL, RM, ↓evs_eq, loadN, V.slz, V.slz1, lnB, V.left, V.lenOf, slice3, sliceNil, Option.getD_none, Option.getD_some, sliceOp, cut, upon_each, nextM, entryOp, buildOk, lookup, lookV, update, elemOf, Option.isSome_map, unOp, wanted, aop, tkB, neD, Env.get, Env.put, Env.keep, putD, dstOk, ev, constV, nilSlice, V.demote, V.toOwn, V.cells, ty, R1.res, binOp, isShift, binOpT, isC, intOp, strOp, shiftOp, byteV, index, indexAddr, slice, bounds, hiB, loB, withB, maxV, minV, evs, pickV, lenV, builtin, initEnv, convert, K.isU8, strOf, load, store, fieldOf, append, appT, fltOp, cpxV, realV, imagV, toInt, rangeOp, nextOp, room, fill, placeOf, splice, repl, chunks, Ty.val, Ty.agg, V.plain, H.row, H.ety, AObj.row, Nat.reduceAdd, ↓reduceIte, Nat.reduceEqDiff, Nat.reduceBEq, Nat.reduceBNe, Nat.reduceLT, Int.reduceToNat, Int.reduceEq, Int.reduceLT, Int.reduceLE, reduceCtorEq, Nat.reduceMul, Nat.reduceLeDiff, S_api_Unit.enc, S_graph_wrong.enc]
            exact hN71 true hq
          · replace hq := (R.post_if hq).2 hc72
            simp only [decide_eq_false hc72, RC, RL, RM, ↓evs_eq, loadN, V.slz, V.slz1, lnB, V.left, V.lenOf, slice3, sliceNil, Option.getD_none, Option.getD_some, sliceOp, cut, upon_each, nextM, entryOp, buildOk, lookup, lookV, update, elemOf, Option.isSome_map, unOp, wanted, aop, tkB, neD, Env.get, Env.put, Env.keep, putD, dstOk, ev, constV, nilSlice, V.demote, V.toOwn, V.cells, ty, R1.res, binOp, isShift, binOpT, isC, intOp, strOp, shiftOp, byteV, index, indexAddr, slice, bounds, hiB, loB, withB, maxV, minV, evs, pickV, lenV, builtin, initEnv, convert, K.isU8, strOf, load, store, fieldOf, append, appT, fltOp, cpxV, realV, imagV, toInt, rangeOp, nextOp, room, fill, placeOf, splice, repl, chunks, Ty.val, Ty.agg, V.plain, H.row, H.ety, AObj.row, Nat.reduceAdd, ↓reduceIte, Nat.reduceEqDiff, Nat.reduceBEq, Nat.reduceBNe, Nat.reduceLT, Int.reduceToNat, Int.reduceEq, Int.reduceLT, Int.reduceLE, reduceCtorEq, Nat.reduceMul, Nat.reduceLeDiff, S_api_Unit.enc, S_graph_wrong.enc]
            exact hN71 (decide ((30 : Int) < (List.length ((gt x0 x10_50).Public) : Int))) hq
      · replace hq := (R.post_if hq).2 hc62
        refine condK_f (congrArg V.bool (decide_eq_false hc62)) ?_
        rw [wp_exit]
        try simp only [↓reduceIte, Nat.reduceEqDiff, reduceCtorEq, if_false, if_true, eq_self, Nat.succ_ne_self, RC]
        replace hq := hK60 _ hq
        try dsimp only at hq
        refine Wk.le (EnvLe.cons (.refl _) (EnvLe.cons (.refl _) (EnvLe.cons (.refl _) (EnvLe.cons (.refl _) (EnvLe.cons (.top _) (EnvLe.cons (.top _) (EnvLe.cons (.top _) (EnvLe.cons (.top _) (EnvLe.cons (.refl _) EnvLe.nil))))))))) ?_
        try simp only [RC]
        exact hN40 (_, _, _, _, _, _, _, _, _) hq

def slices_Clone_string_j0 (x0 : List (List UInt8)) : R ((List (List UInt8))) :=
  if List.length x0 ≤ 1000000000 then (R.ok x0) else R.stuck
def slices_Clone_string (x0 : List (List UInt8)) : R ((List (List UInt8))) :=
  if x0 = [] then (R.both fun c25 => if c25 = true then (R.ok []) else (slices_Clone_string_j0 x0)) else (slices_Clone_string_j0 x0)
theorem slices_Clone_string_call {h : H} {x0 : List (List UInt8)} {Q : Out → H → Prop} {KK : ((List (List UInt8))) → Prop} {X : V → Prop} (hq : (slices_Clone_string x0).post KK X) (hK : ∀ r, KK r → Q (.ret (.own 9 1 (List.map V.str r))) h) (hX : ∀ v, X v → V.Cl 0 v ∧ Q (.panic v) h) : CA qprim 30 [.sl 1 (List.map V.str x0)] h Q := by
  refine acalln hp Try.func30 rfl (by kernel_rfl) (n := 8) rfl (rs := [.tmp 2]) rfl [0, 2, 4] [5] false (by simp) ?_
  unfold slices_Clone_string at hq
  simp only [initEnv, List.map_cons, List.map_nil, List.getD_cons_zero, List.getD_cons_succ, List.getD_nil, V.demote]
  rw [wp_seq]
  refine wp_region_i (by rfl) ?_
  simp only [RC, RL, RM, ↓evs_eq, loadN, V.slz, V.slz1, lnB, V.left, V.lenOf, slice3, sliceNil, Option.getD_none, Option.getD_some, sliceOp, cut, upon_each, nextM, entryOp, buildOk, lookup, lookV, update, elemOf, Option.isSome_map, unOp, wanted, aop, tkB, neD, Env.get, Env.put, Env.keep, putD, dstOk, ev, constV, nilSlice, V.demote, V.toOwn, V.cells, ty, R1.res, binOp, isShift, binOpT, isC, intOp, strOp, shiftOp, byteV, index, indexAddr, slice, bounds, hiB, loB, withB, maxV, minV, evs, pickV, lenV, builtin, initEnv, convert, K.isU8, strOf, load, store, fieldOf, append, appT, fltOp, cpxV, realV, imagV, toInt, rangeOp, nextOp, room, fill, placeOf, splice, repl, chunks, Ty.val, Ty.agg, V.plain, H.row, H.ety, AObj.row, Nat.reduceAdd, ↓reduceIte, Nat.reduceEqDiff, Nat.reduceBEq, Nat.reduceBNe, Nat.reduceLT, Int.reduceToNat, Int.reduceEq, Int.reduceLT, Int.reduceLE, reduceCtorEq, Nat.reduceMul, Nat.reduceLeDiff, S_api_Unit.enc, S_graph_wrong.enc]
  refine seq_gen (acall_mono hp) (σ := V × V) (fun s => [(0, .sl 1 (List.map V.str x0)), (2, s.1), (4, s.2)]) (fun s => h) (fun s => (slices_Clone_string_j0 x0).post KK X) (fun s hq => ?_) (fun N hN17 => ?_)
  · obtain ⟨y2_12, y4_12⟩ := s
    try dsimp only at hq ⊢
    unfold slices_Clone_string_j0 at hq
    rw [wp_seq]
    refine wp_region_i (by rfl) ?_
    obtain ⟨g15, hq⟩ := R.guard hq
    have e16 : [] ++ List.map V.str x0 = List.map V.str ([] ++ x0) := rfl
    simp only [e16, RC, RL, RM, ↓evs_eq, loadN, V.slz, V.slz1, lnB, V.left, V.lenOf, slice3, sliceNil, Option.getD_none, Option.getD_some, sliceOp, cut, upon_each, nextM, entryOp, buildOk, lookup, lookV, update, elemOf, Option.isSome_map, unOp, wanted, aop, tkB, neD, Env.get, Env.put, Env.keep, putD, dstOk, ev, constV, nilSlice, V.demote, V.toOwn, V.cells, ty, R1.res, binOp, isShift, binOpT, isC, intOp, strOp, shiftOp, byteV, index, indexAddr, slice, bounds, hiB, loB, withB, maxV, minV, evs, pickV, lenV, builtin, initEnv, convert, K.isU8, strOf, load, store, fieldOf, append, appT, fltOp, cpxV, realV, imagV, toInt, rangeOp, nextOp, room, fill, placeOf, splice, repl, chunks, Ty.val, Ty.agg, V.plain, H.row, H.ety, AObj.row, Nat.reduceAdd, ↓reduceIte, Nat.reduceEqDiff, Nat.reduceBEq, Nat.reduceBNe, Nat.reduceLT, Int.reduceToNat, Int.reduceEq, Int.reduceLT, Int.reduceLE, reduceCtorEq, Nat.reduceMul, Nat.reduceLeDiff, S_api_Unit.enc, S_graph_wrong.enc]
    repeat (with_reducible refine And.intro (by first | omega | assumption) ?_)
    rw [wp_ret]
    simp only [retQ, results, resultAll, resultOne, Nat.zero_add, scopeQ, RC, RL, RM, ↓evs_eq, loadN, V.slz, V.slz1, lnB, V.left, V.lenOf, slice3, sliceNil, Option.getD_none, Option.getD_some, sliceOp, cut, upon_each, nextM, entryOp, buildOk, lookup, lookV, update, elemOf, Option.isSome_map, unOp, wanted, aop, tkB, neD, Env.get, Env.put, Env.keep, putD, dstOk, ev, constV, nilSlice, V.demote, V.toOwn, V.cells, ty, R1.res, binOp, isShift, binOpT, isC, intOp, strOp, shiftOp, byteV, index, indexAddr, slice, bounds, hiB, loB, withB, maxV, minV, evs, pickV, lenV, builtin, initEnv, convert, K.isU8, strOf, load, store, fieldOf, append, appT, fltOp, cpxV, realV, imagV, toInt, rangeOp, nextOp, room, fill, placeOf, splice, repl, chunks, Ty.val, Ty.agg, V.plain, H.row, H.ety, AObj.row, Nat.reduceAdd, ↓reduceIte, Nat.reduceEqDiff, Nat.reduceBEq, Nat.reduceBNe, Nat.reduceLT, Int.reduceToNat, Int.reduceEq, Int.reduceLT, Int.reduceLE, reduceCtorEq, Nat.reduceMul, Nat.reduceLeDiff, S_api_Unit.enc, S_graph_wrong.enc]
    refine ⟨_, (.refl _), ?_⟩
    exact hK _ hq
  · rw [wp_seq]
    refine wp_region_i (by rfl) ?_
    simp only [RC, RL, RM, ↓evs_eq, loadN, V.slz, V.slz1, lnB, V.left, V.lenOf, slice3, sliceNil, Option.getD_none, Option.getD_some, sliceOp, cut, upon_each, nextM, entryOp, buildOk, lookup, lookV, update, elemOf, Option.isSome_map, unOp, wanted, aop, tkB, neD, Env.get, Env.put, Env.keep, putD, dstOk, ev, constV, nilSlice, V.demote, V.toOwn, V.cells, ty, R1.res, binOp, isShift, binOpT, isC, intOp, strOp, shiftOp, byteV, index, indexAddr, slice, bounds, hiB, loB, withB, maxV, minV, evs, pickV, lenV, builtin, initEnv, convert, K.isU8, strOf, load, store, fieldOf, append, appT, fltOp, cpxV, realV, imagV, toInt, rangeOp, nextOp, room, fill, placeOf, splice, repl, chunks, Ty.val, Ty.agg, V.plain, H.row, H.ety, AObj.row, Nat.reduceAdd, ↓reduceIte, Nat.reduceEqDiff, Nat.reduceBEq, Nat.reduceBNe, Nat.reduceLT, Int.reduceToNat, Int.reduceEq, Int.reduceLT, Int.reduceLE, reduceCtorEq, Nat.reduceMul, Nat.reduceLeDiff, S_api_Unit.enc, S_graph_wrong.enc]
    by_cases hc23 : x0 = []
    · replace hq := (R.post_if hq).1 hc23
      try simp only [decide_eq_true hc23, RC, RL, RM, ↓evs_eq, loadN, V.slz, V.slz1, lnB, V.left, V.lenOf, slice3, sliceNil, Option.getD_none, Option.getD_some, sliceOp, cut, upon_each, nextM, entryOp, buildOk, lookup, lookV, update, elemOf, Option.isSome_map, unOp, wanted, aop, tkB, neD, Env.get, Env.put, Env.keep, putD, dstOk, ev, constV, nilSlice, V.demote, V.toOwn, V.cells, ty, R1.res, binOp, isShift, binOpT, isC, intOp, strOp, shiftOp, byteV, index, indexAddr, slice, bounds, hiB, loB, withB, maxV, minV, evs, pickV, lenV, builtin, initEnv, convert, K.isU8, strOf, load, store, fieldOf, append, appT, fltOp, cpxV, realV, imagV, toInt, rangeOp, nextOp, room, fill, placeOf, splice, repl, chunks, Ty.val, Ty.agg, V.plain, H.row, H.ety, AObj.row, Nat.reduceAdd, ↓reduceIte, Nat.reduceEqDiff, Nat.reduceBEq, Nat.reduceBNe, Nat.reduceLT, Int.reduceToNat, Int.reduceEq, Int.reduceLT, Int.reduceLE, reduceCtorEq, Nat.reduceMul, Nat.reduceLeDiff, S_api_Unit.enc, S_graph_wrong.enc]
      repeat (with_reducible refine And.intro (by first | omega | assumption) ?_)
      intro u24
      replace hq := R.post_both hq (nilB false ((List.map V.str x0)) u24)
      generalize nilB false ((List.map V.str x0)) u24 = c25 at hq ⊢
      rw [wp_cond]
      simp only [RC, RL, RM, ↓evs_eq, loadN, V.slz, V.slz1, lnB, V.left, V.lenOf, slice3, sliceNil, Option.getD_none, Option.getD_some, sliceOp, cut, upon_each, nextM, entryOp, buildOk, lookup, lookV, update, elemOf, Option.isSome_map, unOp, wanted, aop, tkB, neD, Env.get, Env.put, Env.keep, putD, dstOk, ev, constV, nilSlice, V.demote, V.toOwn, V.cells, ty, R1.res, binOp, isShift, binOpT, isC, intOp, strOp, shiftOp, byteV, index, indexAddr, slice, bounds, hiB, loB, withB, maxV, minV, evs, pickV, lenV, builtin, initEnv, convert, K.isU8, strOf, load, store, fieldOf, append, appT, fltOp, cpxV, realV, imagV, toInt, rangeOp, nextOp, room, fill, placeOf, splice, repl, chunks, Ty.val, Ty.agg, V.plain, H.row, H.ety, AObj.row, Nat.reduceAdd, ↓reduceIte, Nat.reduceEqDiff, Nat.reduceBEq, Nat.reduceBNe, Nat.reduceLT, Int.reduceToNat, Int.reduceEq, Int.reduceLT, Int.reduceLE, reduceCtorEq, Nat.reduceMul, Nat.reduceLeDiff, S_api_Unit.enc, S_graph_wrong.enc]
      by_cases hc26 : c25 = true
      · replace hq := (R.post_if hq).1 hc26
        refine condK_t (congrArg V.bool (hc26)) ?_
        rw [wp_seq]
        refine wp_region_i (by rfl) ?_
        simp only [RC, RL, RM, ↓evs_eq, loadN, V.slz, V.slz1, lnB, V.left, V.lenOf, slice3, sliceNil, Option.getD_none, Option.getD_some, sliceOp, cut, upon_each, nextM, entryOp, buildOk, lookup, lookV, update, elemOf, Option.isSome_map, unOp, wanted, aop, tkB, neD, Env.get, Env.put, Env.keep, putD, dstOk, ev, constV, nilSlice, V.demote, V.toOwn, V.cells, ty, R1.res, binOp, isShift, binOpT, isC, intOp, strOp, shiftOp, byteV, index, indexAddr, slice, bounds, hiB, loB, withB, maxV, minV, evs, pickV, lenV, builtin, initEnv, convert, K.isU8, strOf, load, store, fieldOf, append, appT, fltOp, cpxV, realV, imagV, toInt, rangeOp, nextOp, room, fill, placeOf, splice, repl, chunks, Ty.val, Ty.agg, V.plain, H.row, H.ety, AObj.row, Nat.reduceAdd, ↓reduceIte, Nat.reduceEqDiff, Nat.reduceBEq, Nat.reduceBNe, Nat.reduceLT, Int.reduceToNat, Int.reduceEq, Int.reduceLT, Int.reduceLE, reduceCtorEq, Nat.reduceMul, Nat.reduceLeDiff, S_api_Unit.enc, S_graph_wrong.enc]
        rw [wp_ret]
        simp only [retQ, results, resultAll, resultOne, Nat.zero_add, scopeQ, RC, RL, RM, ↓evs_eq, loadN, V.slz, V.slz1, lnB, V.left, V.lenOf, slice3, sliceNil, Option.getD_none, Option.getD_some, sliceOp, cut, upon_each, nextM, entryOp, buildOk, lookup, lookV, update, elemOf, Option.isSome_map, unOp, wanted, aop, tkB, neD, Env.get, Env.put, Env.keep, putD, dstOk, ev, constV, nilSlice, V.demote, V.toOwn, V.cells, ty, R1.res, binOp, isShift, binOpT, isC, intOp, strOp, shiftOp, byteV, index, indexAddr, slice, bounds, hiB, loB, withB, maxV, minV, evs, pickV, lenV, builtin, initEnv, convert, K.isU8, strOf, load, store, fieldOf, append, appT, fltOp, cpxV, realV, imagV, toInt, rangeOp, nextOp, room, fill, placeOf, splice, repl, chunks, Ty.val, Ty.agg, V.plain, H.row, H.ety, AObj.row, Nat.reduceAdd, ↓reduceIte, Nat.reduceEqDiff, Nat.reduceBEq, Nat.reduceBNe, Nat.reduceLT, Int.reduceToNat, Int.reduceEq, Int.reduceLT, Int.reduceLE, reduceCtorEq, Nat.reduceMul, Nat.reduceLeDiff, S_api_Unit.enc, S_graph_wrong.enc]
        refine ⟨_, (.refl _), ?_⟩
        exact hK _ hq
      · replace hq := (R.post_if hq).2 hc26
        replace hc26 := eq_false_of_ne_true hc26
        refine condK_f (congrArg V.bool (hc26)) ?_
        try simp only [wp_skip, RC]
        refine Wk.le (EnvLe.cons (.refl _) (EnvLe.cons (.top _) (EnvLe.cons (.top _) EnvLe.nil))) ?_
        try simp only [RC]
        exact hN17 (_, _) hq
    · replace hq := (R.post_if hq).2 hc23
      have e28 : ∀ u, nilB false ((List.map V.str x0)) u = false := fun u => nilB_ne hc23
      simp only [e28, decide_eq_false hc23, RC, RL, RM, ↓evs_eq, loadN, V.slz, V.slz1, lnB, V.left, V.lenOf, slice3, sliceNil, Option.getD_none, Option.getD_some, sliceOp, cut, upon_each, nextM, entryOp, buildOk, lookup, lookV, update, elemOf, Option.isSome_map, unOp, wanted, aop, tkB, neD, Env.get, Env.put, Env.keep, putD, dstOk, ev, constV, nilSlice, V.demote, V.toOwn, V.cells, ty, R1.res, binOp, isShift, binOpT, isC, intOp, strOp, shiftOp, byteV, index, indexAddr, slice, bounds, hiB, loB, withB, maxV, minV, evs, pickV, lenV, builtin, initEnv, convert, K.isU8, strOf, load, store, fieldOf, append, appT, fltOp, cpxV, realV, imagV, toInt, rangeOp, nextOp, room, fill, placeOf, splice, repl, chunks, Ty.val, Ty.agg, V.plain, H.row, H.ety, AObj.row, Nat.reduceAdd, ↓reduceIte, Nat.reduceEqDiff, Nat.reduceBEq, Nat.reduceBNe, Nat.reduceLT, Int.reduceToNat, Int.reduceEq, Int.reduceLT, Int.reduceLE, reduceCtorEq, Nat.reduceMul, Nat.reduceLeDiff, S_api_Unit.enc, S_graph_wrong.enc]
      repeat (with_reducible refine And.intro (by first | omega | assumption) ?_)
      intro u27
      rw [wp_cond]
      simp only [RC, RL, RM, ↓evs_eq, loadN, V.slz, V.slz1, lnB, V.left, V.lenOf, slice3, sliceNil, Option.getD_none, Option.getD_some, sliceOp, cut, upon_each, nextM, entryOp, buildOk, lookup, lookV, update, elemOf, Option.isSome_map, unOp, wanted, aop, tkB, neD, Env.get, Env.put, Env.keep, putD, dstOk, ev, constV, nilSlice, V.demote, V.toOwn, V.cells, ty, R1.res, binOp, isShift, binOpT, isC, intOp, strOp, shiftOp, byteV, index, indexAddr, slice, bounds, hiB, loB, withB, maxV, minV, evs, pickV, lenV, builtin, initEnv, convert, K.isU8, strOf, load, store, fieldOf, append, appT, fltOp, cpxV, realV, imagV, toInt, rangeOp, nextOp, room, fill, placeOf, splice, repl, chunks, Ty.val, Ty.agg, V.plain, H.row, H.ety, AObj.row, Nat.reduceAdd, ↓reduceIte, Nat.reduceEqDiff, Nat.reduceBEq, Nat.reduceBNe, Nat.reduceLT, Int.reduceToNat, Int.reduceEq, Int.reduceLT, Int.reduceLE, reduceCtorEq, Nat.reduceMul, Nat.reduceLeDiff, S_api_Unit.enc, S_graph_wrong.enc]
      rw [condK_ff]
      try simp only [wp_skip, RC]
      refine Wk.le (EnvLe.cons (.refl _) (EnvLe.cons (.top _) (EnvLe.cons (.top _) EnvLe.nil))) ?_
      try simp only [RC]
      exact hN17 (_, _) hq

def graph_Closure_1 (x0 : S_api_Unit) (x1 : Bool) : R ((List (List UInt8))) :=
  (slices_Clone_string x0.Deps).bind fun r4 => R.ok r4
theorem graph_Closure_1_call {h : H} {x0 : S_api_Unit} {x1 : Bool} {Q : Out → H → Prop} {KK : ((List (List UInt8))) → Prop} {X : V → Prop} (hq : (graph_Closure_1 x0 x1).post KK X) (hK : ∀ r, KK r → Q (.ret (.own 9 1 (List.map V.str r))) h) (hX : ∀ v, X v → V.Cl 0 v ∧ Q (.panic v) h) : CA qprim 29 [.agg [.str x0.Path, .sl 1 (List.map V.str x0.Deps), .sl 1 (List.map (V.int .i64) x0.Public)], .bool x1] h Q := by
  refine acalln hp Try.func29 rfl (by kernel_rfl) (n := 8) rfl (rs := [.tmp 4]) rfl [0, 2, 4] [] true (by simp) ?_
  unfold graph_Closure_1 at hq
  simp only [initEnv, List.map_cons, List.map_nil, List.getD_cons_zero, List.getD_cons_succ, List.getD_nil, V.demote]
  rw [wp_seq]
  refine wp_region_i (by rfl) ?_
  simp only [RC, RL, RM, ↓evs_eq, loadN, V.slz, V.slz1, lnB, V.left, V.lenOf, slice3, sliceNil, Option.getD_none, Option.getD_some, sliceOp, cut, upon_each, nextM, entryOp, buildOk, lookup, lookV, update, elemOf, Option.isSome_map, unOp, wanted, aop, tkB, neD, Env.get, Env.put, Env.keep, putD, dstOk, ev, constV, nilSlice, V.demote, V.toOwn, V.cells, ty, R1.res, binOp, isShift, binOpT, isC, intOp, strOp, shiftOp, byteV, index, indexAddr, slice, bounds, hiB, loB, withB, maxV, minV, evs, pickV, lenV, builtin, initEnv, convert, K.isU8, strOf, load, store, fieldOf, append, appT, fltOp, cpxV, realV, imagV, toInt, rangeOp, nextOp, room, fill, placeOf, splice, repl, chunks, Ty.val, Ty.agg, V.plain, H.row, H.ety, AObj.row, Nat.reduceAdd, ↓reduceIte, Nat.reduceEqDiff, Nat.reduceBEq, Nat.reduceBNe, Nat.reduceLT, Int.reduceToNat, Int.reduceEq, Int.reduceLT, Int.reduceLE, reduceCtorEq, Nat.reduceMul, Nat.reduceLeDiff, S_api_Unit.enc, S_graph_wrong.enc]
  rw [wp_seq]
  refine wp_region_i (by rfl) ?_
  simp only [RC, RL, RM, ↓evs_eq, loadN, V.slz, V.slz1, lnB, V.left, V.lenOf, slice3, sliceNil, Option.getD_none, Option.getD_some, sliceOp, cut, upon_each, nextM, entryOp, buildOk, lookup, lookV, update, elemOf, Option.isSome_map, unOp, wanted, aop, tkB, neD, Env.get, Env.put, Env.keep, putD, dstOk, ev, constV, nilSlice, V.demote, V.toOwn, V.cells, ty, R1.res, binOp, isShift, binOpT, isC, intOp, strOp, shiftOp, byteV, index, indexAddr, slice, bounds, hiB, loB, withB, maxV, minV, evs, pickV, lenV, builtin, initEnv, convert, K.isU8, strOf, load, store, fieldOf, append, appT, fltOp, cpxV, realV, imagV, toInt, rangeOp, nextOp, room, fill, placeOf, splice, repl, chunks, Ty.val, Ty.agg, V.plain, H.row, H.ety, AObj.row, Nat.reduceAdd, ↓reduceIte, Nat.reduceEqDiff, Nat.reduceBEq, Nat.reduceBNe, Nat.reduceLT, Int.reduceToNat, Int.reduceEq, Int.reduceLT, Int.reduceLE, reduceCtorEq, Nat.reduceMul, Nat.reduceLeDiff, S_api_Unit.enc, S_graph_wrong.enc]
  obtain ⟨K5, hK6, hq⟩ := R.post_cut hq
  refine slices_Clone_string_call (x0 := x0.Deps) hq (fun r4 hq => ?_) (fun v hv => ⟨(hX v hv).1, ?_⟩)
  · replace hq := hK6 _ hq
    simp only [RC, RL, RM, ↓evs_eq, loadN, V.slz, V.slz1, lnB, V.left, V.lenOf, slice3, sliceNil, Option.getD_none, Option.getD_some, sliceOp, cut, upon_each, nextM, entryOp, buildOk, lookup, lookV, update, elemOf, Option.isSome_map, unOp, wanted, aop, tkB, neD, Env.get, Env.put, Env.keep, putD, dstOk, ev, constV, nilSlice, V.demote, V.toOwn, V.cells, ty, R1.res, binOp, isShift, binOpT, isC, intOp, strOp, shiftOp, byteV, index, indexAddr, slice, bounds, hiB, loB, withB, maxV, minV, evs, pickV, lenV, builtin, initEnv, convert, K.isU8, strOf, load, store, fieldOf, append, appT, fltOp, cpxV, realV, imagV, toInt, rangeOp, nextOp, room, fill, placeOf, splice, repl, chunks, Ty.val, Ty.agg, V.plain, H.row, H.ety, AObj.row, Nat.reduceAdd, ↓reduceIte, Nat.reduceEqDiff, Nat.reduceBEq, Nat.reduceBNe, Nat.reduceLT, Int.reduceToNat, Int.reduceEq, Int.reduceLT, Int.reduceLE, reduceCtorEq, Nat.reduceMul, Nat.reduceLeDiff, S_api_Unit.enc, S_graph_wrong.enc]
    rw [wp_ret]
    simp only [retQ, results, resultAll, resultOne, Nat.zero_add, scopeQ, RC, RL, RM, ↓evs_eq, loadN, V.slz, V.slz1, lnB, V.left, V.lenOf, slice3, sliceNil, Option.getD_none, Option.getD_some, sliceOp, cut, upon_each, nextM, entryOp, buildOk, lookup, lookV, update, elemOf, Option.isSome_map, unOp, wanted, aop, tkB, neD, Env.get, Env.put, Env.keep, putD, dstOk, ev, constV, nilSlice, V.demote, V.toOwn, V.cells, ty, R1.res, binOp, isShift, binOpT, isC, intOp, strOp, shiftOp, byteV, index, indexAddr, slice, bounds, hiB, loB, withB, maxV, minV, evs, pickV, lenV, builtin, initEnv, convert, K.isU8, strOf, load, store, fieldOf, append, appT, fltOp, cpxV, realV, imagV, toInt, rangeOp, nextOp, room, fill, placeOf, splice, repl, chunks, Ty.val, Ty.agg, V.plain, H.row, H.ety, AObj.row, Nat.reduceAdd, ↓reduceIte, Nat.reduceEqDiff, Nat.reduceBEq, Nat.reduceBNe, Nat.reduceLT, Int.reduceToNat, Int.reduceEq, Int.reduceLT, Int.reduceLE, reduceCtorEq, Nat.reduceMul, Nat.reduceLeDiff, S_api_Unit.enc, S_graph_wrong.enc]
    refine ⟨_, (.refl _), ?_⟩
    refine leave_ok rfl (.own _ _ _ (cl_map (fun x => .str _))) ?_
    exact hK _ hq
  · simp only [RC, scopeQ, retQ, ↓reduceIte, Bool.false_eq_true]
    exact leaveP_ok ((hX _ hv).1.mono (Nat.zero_le _)) (hX _ hv).2
end Go.Proofs.Ytmaabgkgjknhpaa.Pv
