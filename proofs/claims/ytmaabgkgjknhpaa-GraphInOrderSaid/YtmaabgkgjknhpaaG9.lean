/- Functions of the program, as plain Lean functions, and that the code comes to them: printed by gen.py. -/
import Derived.Test.YtmaabgkgjknhpaaG4
import Derived.Test.YtmaabgkgjknhpaaG5
import Derived.Test.YtmaabgkgjknhpaaG8
set_option linter.unusedVariables false
set_option linter.unusedSimpArgs false
set_option maxHeartbeats 4000000
set_option maxRecDepth 10000
namespace Go.Proofs.Ytmaabgkgjknhpaa.Pv
open Go Go.Proofs

def glossaryref10_Same_j0 : R (Bool) :=
  R.ok true
def glossaryref10_Same_l1 (x0 : List (List UInt8)) (x1 : List (List UInt8)) : Nat → Int → R ((Unit) ⊕ (Bool))
  | 0, _ => R.stuck
  | k + 1, x13_28 => if x13_28 < (List.length x0 : Int) then (if 0 ≤ x13_28 ∧ x13_28 < (List.length x0 : Int) then (if 0 ≤ x13_28 ∧ x13_28 < (List.length x1 : Int) then (if (gt x0 x13_28) = (gt x1 x13_28) then (glossaryref10_Same_l1 x0 x1 k (IntKind.wrap .i64 (x13_28 + 1))) else (R.ok (.inr false))) else R.stuck) else R.stuck) else (R.ok (.inl ()))
def glossaryref10_Same (x0 : List (List UInt8)) (x1 : List (List UInt8)) : R (Bool) :=
  if (List.length x0 : Int) = (List.length x1 : Int) then ((glossaryref10_Same_l1 x0 x1 Many 0).bind fun | (.inl _) => glossaryref10_Same_j0 | (.inr rp54) => R.ok rp54) else (R.ok false)
theorem glossaryref10_Same_call {h : H} {x0 : List (List UInt8)} {x1 : List (List UInt8)} {Q : Out → H → Prop} {KK : (Bool) → Prop} {X : V → Prop} (hq : (glossaryref10_Same x0 x1).post KK X) (hK : ∀ r, KK r → Q (.ret (.bool r)) h) (hX : ∀ v, X v → V.Cl 0 v ∧ Q (.panic v) h) : CA qprim 13 [.sl 1 (List.map V.str x0), .sl 1 (List.map V.str x1)] h Q := by
  refine acalln hp Try.func13 rfl (by kernel_rfl) (n := 26) rfl (rs := [.tmp 4]) rfl [0, 1, 4, 5, 10, 12, 13, 14, 24] [] false (by simp) ?_
  unfold glossaryref10_Same at hq
  simp only [initEnv, List.map_cons, List.map_nil, List.getD_cons_zero, List.getD_cons_succ, List.getD_nil, V.demote]
  rw [wp_seq]
  rw [wp_region]
  simp only [RC, RL, RM, ↓evs_eq, loadN, V.slz, V.slz1, lnB, V.left, V.lenOf, slice3, sliceNil, Option.getD_none, sliceOp, cut, upon_each, buildOk, lookup, lookV, update, elemOf, Option.isSome_map, unOp, wanted, aop, tkB, neD, Env.get, Env.put, Env.keep, putD, dstOk, ev, constV, nilSlice, V.demote, V.toOwn, V.cells, ty, R1.res, binOp, isShift, binOpT, isC, intOp, strOp, shiftOp, byteV, index, indexAddr, slice, bounds, hiB, loB, withB, maxV, minV, evs, pickV, lenV, builtin, initEnv, convert, K.isU8, strOf, load, store, fieldOf, append, appT, fltOp, cpxV, realV, imagV, toInt, rangeOp, nextOp, room, fill, placeOf, splice, repl, chunks, Ty.val, Ty.agg, V.plain, H.row, H.ety, AObj.row, Nat.reduceAdd, ↓reduceIte, Nat.reduceEqDiff, Nat.reduceBEq, Nat.reduceBNe, Nat.reduceLT, Int.reduceToNat, Int.reduceEq, Int.reduceLT, Int.reduceLE, reduceCtorEq, Nat.reduceMul, Nat.reduceLeDiff, S_api_Unit.enc, S_graph_wrong.enc]
  rw [wp_seq]
  rw [wp_seq]
  rw [wp_region]
  simp only [RC, RL, RM, ↓evs_eq, loadN, V.slz, V.slz1, lnB, V.left, V.lenOf, slice3, sliceNil, Option.getD_none, sliceOp, cut, upon_each, buildOk, lookup, lookV, update, elemOf, Option.isSome_map, unOp, wanted, aop, tkB, neD, Env.get, Env.put, Env.keep, putD, dstOk, ev, constV, nilSlice, V.demote, V.toOwn, V.cells, ty, R1.res, binOp, isShift, binOpT, isC, intOp, strOp, shiftOp, byteV, index, indexAddr, slice, bounds, hiB, loB, withB, maxV, minV, evs, pickV, lenV, builtin, initEnv, convert, K.isU8, strOf, load, store, fieldOf, append, appT, fltOp, cpxV, realV, imagV, toInt, rangeOp, nextOp, room, fill, placeOf, splice, repl, chunks, Ty.val, Ty.agg, V.plain, H.row, H.ety, AObj.row, Nat.reduceAdd, ↓reduceIte, Nat.reduceEqDiff, Nat.reduceBEq, Nat.reduceBNe, Nat.reduceLT, Int.reduceToNat, Int.reduceEq, Int.reduceLT, Int.reduceLE, reduceCtorEq, Nat.reduceMul, Nat.reduceLeDiff, S_api_Unit.enc, S_graph_wrong.enc]
  rw [wp_cond]
  simp only [RC, RL, RM, ↓evs_eq, loadN, V.slz, V.slz1, lnB, V.left, V.lenOf, slice3, sliceNil, Option.getD_none, sliceOp, cut, upon_each, buildOk, lookup, lookV, update, elemOf, Option.isSome_map, unOp, wanted, aop, tkB, neD, Env.get, Env.put, Env.keep, putD, dstOk, ev, constV, nilSlice, V.demote, V.toOwn, V.cells, ty, R1.res, binOp, isShift, binOpT, isC, intOp, strOp, shiftOp, byteV, index, indexAddr, slice, bounds, hiB, loB, withB, maxV, minV, evs, pickV, lenV, builtin, initEnv, convert, K.isU8, strOf, load, store, fieldOf, append, appT, fltOp, cpxV, realV, imagV, toInt, rangeOp, nextOp, room, fill, placeOf, splice, repl, chunks, Ty.val, Ty.agg, V.plain, H.row, H.ety, AObj.row, Nat.reduceAdd, ↓reduceIte, Nat.reduceEqDiff, Nat.reduceBEq, Nat.reduceBNe, Nat.reduceLT, Int.reduceToNat, Int.reduceEq, Int.reduceLT, Int.reduceLE, reduceCtorEq, Nat.reduceMul, Nat.reduceLeDiff, S_api_Unit.enc, S_graph_wrong.enc]
  by_cases hc2 : (List.length x0 : Int) = (List.length x1 : Int)
  · replace hq := (R.post_if hq).1 hc2
    refine condK_f (congrArg (fun b => V.bool (!b)) (decide_eq_true hc2)) ?_
    try simp only [wp_skip, RC]
    refine Wk.same ?_
    try simp only [RC]
    refine seq_gen (acall_mono hp) (σ := V × V × V × V × V × V) (fun s => [(0, .sl 1 (List.map V.str x0)), (1, .sl 1 (List.map V.str x1)), (4, s.1), (5, s.2.1), (10, .bool (!(decide ((List.length x0 : Int) = (List.length x1 : Int))))), (12, s.2.2.1), (13, s.2.2.2.1), (14, s.2.2.2.2.1), (24, s.2.2.2.2.2)]) (fun s => h) (fun s => (glossaryref10_Same_j0).post KK X) (fun s hq => ?_) (fun N hN27 => ?_)
    · obtain ⟨y4_26, y5_26, y12_26, y13_26, y14_26, y24_26⟩ := s
      try dsimp only at hq ⊢
      unfold glossaryref10_Same_j0 at hq
      rw [wp_seq]
      rw [wp_region]
      simp only [RC, RL, RM, ↓evs_eq, loadN, V.slz, V.slz1, lnB, V.left, V.lenOf, slice3, sliceNil, Option.getD_none, sliceOp, cut, upon_each, buildOk, lookup, lookV, update, elemOf, Option.isSome_map, unOp, wanted, aop, tkB, neD, Env.get, Env.put, Env.keep, putD, dstOk, ev, constV, nilSlice, V.demote, V.toOwn, V.cells, ty, R1.res, binOp, isShift, binOpT, isC, intOp, strOp, shiftOp, byteV, index, indexAddr, slice, bounds, hiB, loB, withB, maxV, minV, evs, pickV, lenV, builtin, initEnv, convert, K.isU8, strOf, load, store, fieldOf, append, appT, fltOp, cpxV, realV, imagV, toInt, rangeOp, nextOp, room, fill, placeOf, splice, repl, chunks, Ty.val, Ty.agg, V.plain, H.row, H.ety, AObj.row, Nat.reduceAdd, ↓reduceIte, Nat.reduceEqDiff, Nat.reduceBEq, Nat.reduceBNe, Nat.reduceLT, Int.reduceToNat, Int.reduceEq, Int.reduceLT, Int.reduceLE, reduceCtorEq, Nat.reduceMul, Nat.reduceLeDiff, S_api_Unit.enc, S_graph_wrong.enc]
      rw [wp_ret]
      simp only [retQ, results, resultAll, resultOne, Nat.zero_add, scopeQ, RC, RL, RM, ↓evs_eq, loadN, V.slz, V.slz1, lnB, V.left, V.lenOf, slice3, sliceNil, Option.getD_none, sliceOp, cut, upon_each, buildOk, lookup, lookV, update, elemOf, Option.isSome_map, unOp, wanted, aop, tkB, neD, Env.get, Env.put, Env.keep, putD, dstOk, ev, constV, nilSlice, V.demote, V.toOwn, V.cells, ty, R1.res, binOp, isShift, binOpT, isC, intOp, strOp, shiftOp, byteV, index, indexAddr, slice, bounds, hiB, loB, withB, maxV, minV, evs, pickV, lenV, builtin, initEnv, convert, K.isU8, strOf, load, store, fieldOf, append, appT, fltOp, cpxV, realV, imagV, toInt, rangeOp, nextOp, room, fill, placeOf, splice, repl, chunks, Ty.val, Ty.agg, V.plain, H.row, H.ety, AObj.row, Nat.reduceAdd, ↓reduceIte, Nat.reduceEqDiff, Nat.reduceBEq, Nat.reduceBNe, Nat.reduceLT, Int.reduceToNat, Int.reduceEq, Int.reduceLT, Int.reduceLE, reduceCtorEq, Nat.reduceMul, Nat.reduceLeDiff, S_api_Unit.enc, S_graph_wrong.enc]
      refine ⟨_, (.refl _), ?_⟩
      exact hK _ hq
    · rw [wp_seq]
      rw [wp_region]
      simp only [RC, RL, RM, ↓evs_eq, loadN, V.slz, V.slz1, lnB, V.left, V.lenOf, slice3, sliceNil, Option.getD_none, sliceOp, cut, upon_each, buildOk, lookup, lookV, update, elemOf, Option.isSome_map, unOp, wanted, aop, tkB, neD, Env.get, Env.put, Env.keep, putD, dstOk, ev, constV, nilSlice, V.demote, V.toOwn, V.cells, ty, R1.res, binOp, isShift, binOpT, isC, intOp, strOp, shiftOp, byteV, index, indexAddr, slice, bounds, hiB, loB, withB, maxV, minV, evs, pickV, lenV, builtin, initEnv, convert, K.isU8, strOf, load, store, fieldOf, append, appT, fltOp, cpxV, realV, imagV, toInt, rangeOp, nextOp, room, fill, placeOf, splice, repl, chunks, Ty.val, Ty.agg, V.plain, H.row, H.ety, AObj.row, Nat.reduceAdd, ↓reduceIte, Nat.reduceEqDiff, Nat.reduceBEq, Nat.reduceBNe, Nat.reduceLT, Int.reduceToNat, Int.reduceEq, Int.reduceLT, Int.reduceLE, reduceCtorEq, Nat.reduceMul, Nat.reduceLeDiff, S_api_Unit.enc, S_graph_wrong.enc]
      rw [wp_block]
      refine loop_in ?_
      refine Wk.le (EnvLe.cons (.refl _) (EnvLe.cons (.refl _) (EnvLe.cons (.top _) (EnvLe.cons (.refl _) (EnvLe.cons (.refl _) (EnvLe.cons (.refl _) (EnvLe.cons (.refl _) (EnvLe.cons (.refl _) (EnvLe.cons (.refl _) EnvLe.nil))))))))) ?_
      obtain ⟨K39, hK40, hq⟩ := R.post_cut hq
      refine loop_gen (acall_mono hp) (σ := V × V × Int × V × V) (fun s => [(0, .sl 1 (List.map V.str x0)), (1, .sl 1 (List.map V.str x1)), (4, s.1), (5, s.2.1), (10, .bool (!(decide ((List.length x0 : Int) = (List.length x1 : Int))))), (12, .int .i64 (List.length x0 : Int)), (13, .int .i64 s.2.2.1), (14, s.2.2.2.1), (24, s.2.2.2.2)]) (fun s => h) (fun k s => (glossaryref10_Same_l1 x0 x1 k s.2.2.1).post K39 X) (fun s hs => hs) (fun k52 s hq N hN41 => ?_) _ (_, _, 0, _, _) hq
      obtain ⟨y4_28, y5_28, x13_28, y14_28, y24_28⟩ := s
      try dsimp only at hq ⊢
      rw [glossaryref10_Same_l1] at hq
      rw [wp_seq]
      rw [wp_region]
      simp only [RC, RL, RM, ↓evs_eq, loadN, V.slz, V.slz1, lnB, V.left, V.lenOf, slice3, sliceNil, Option.getD_none, sliceOp, cut, upon_each, buildOk, lookup, lookV, update, elemOf, Option.isSome_map, unOp, wanted, aop, tkB, neD, Env.get, Env.put, Env.keep, putD, dstOk, ev, constV, nilSlice, V.demote, V.toOwn, V.cells, ty, R1.res, binOp, isShift, binOpT, isC, intOp, strOp, shiftOp, byteV, index, indexAddr, slice, bounds, hiB, loB, withB, maxV, minV, evs, pickV, lenV, builtin, initEnv, convert, K.isU8, strOf, load, store, fieldOf, append, appT, fltOp, cpxV, realV, imagV, toInt, rangeOp, nextOp, room, fill, placeOf, splice, repl, chunks, Ty.val, Ty.agg, V.plain, H.row, H.ety, AObj.row, Nat.reduceAdd, ↓reduceIte, Nat.reduceEqDiff, Nat.reduceBEq, Nat.reduceBNe, Nat.reduceLT, Int.reduceToNat, Int.reduceEq, Int.reduceLT, Int.reduceLE, reduceCtorEq, Nat.reduceMul, Nat.reduceLeDiff, S_api_Unit.enc, S_graph_wrong.enc]
      rw [wp_seq]
      rw [wp_cond]
      simp only [RC, RL, RM, ↓evs_eq, loadN, V.slz, V.slz1, lnB, V.left, V.lenOf, slice3, sliceNil, Option.getD_none, sliceOp, cut, upon_each, buildOk, lookup, lookV, update, elemOf, Option.isSome_map, unOp, wanted, aop, tkB, neD, Env.get, Env.put, Env.keep, putD, dstOk, ev, constV, nilSlice, V.demote, V.toOwn, V.cells, ty, R1.res, binOp, isShift, binOpT, isC, intOp, strOp, shiftOp, byteV, index, indexAddr, slice, bounds, hiB, loB, withB, maxV, minV, evs, pickV, lenV, builtin, initEnv, convert, K.isU8, strOf, load, store, fieldOf, append, appT, fltOp, cpxV, realV, imagV, toInt, rangeOp, nextOp, room, fill, placeOf, splice, repl, chunks, Ty.val, Ty.agg, V.plain, H.row, H.ety, AObj.row, Nat.reduceAdd, ↓reduceIte, Nat.reduceEqDiff, Nat.reduceBEq, Nat.reduceBNe, Nat.reduceLT, Int.reduceToNat, Int.reduceEq, Int.reduceLT, Int.reduceLE, reduceCtorEq, Nat.reduceMul, Nat.reduceLeDiff, S_api_Unit.enc, S_graph_wrong.enc]
      by_cases hc42 : x13_28 < (List.length x0 : Int)
      · replace hq := (R.post_if hq).1 hc42
        refine condK_t (congrArg V.bool (decide_eq_true hc42)) ?_
        try simp only [wp_skip, RC]
        refine Wk.same ?_
        try simp only [RC]
        rw [wp_seq]
        rw [wp_block]
        rw [wp_seq]
        rw [wp_region]
        simp only [RC, RL, RM, ↓evs_eq, loadN, V.slz, V.slz1, lnB, V.left, V.lenOf, slice3, sliceNil, Option.getD_none, sliceOp, cut, upon_each, buildOk, lookup, lookV, update, elemOf, Option.isSome_map, unOp, wanted, aop, tkB, neD, Env.get, Env.put, Env.keep, putD, dstOk, ev, constV, nilSlice, V.demote, V.toOwn, V.cells, ty, R1.res, binOp, isShift, binOpT, isC, intOp, strOp, shiftOp, byteV, index, indexAddr, slice, bounds, hiB, loB, withB, maxV, minV, evs, pickV, lenV, builtin, initEnv, convert, K.isU8, strOf, load, store, fieldOf, append, appT, fltOp, cpxV, realV, imagV, toInt, rangeOp, nextOp, room, fill, placeOf, splice, repl, chunks, Ty.val, Ty.agg, V.plain, H.row, H.ety, AObj.row, Nat.reduceAdd, ↓reduceIte, Nat.reduceEqDiff, Nat.reduceBEq, Nat.reduceBNe, Nat.reduceLT, Int.reduceToNat, Int.reduceEq, Int.reduceLT, Int.reduceLE, reduceCtorEq, Nat.reduceMul, Nat.reduceLeDiff, S_api_Unit.enc, S_graph_wrong.enc]
        rw [wp_seq]
        refine wp_draw (acall_mono hp) (by kernel_rfl) (by rfl) ?_
        obtain ⟨g47, hq⟩ := R.guard hq
        obtain ⟨g49, hq⟩ := R.guard hq
        have e48 := map_gt (f := V.str) (l := x0) (i := x13_28) g47
        have e50 := map_gt (f := V.str) (l := x1) (i := x13_28) g49
        simp only [e48, e50, RC, RL, RM, ↓evs_eq, loadN, V.slz, V.slz1, lnB, V.left, V.lenOf, slice3, sliceNil, Option.getD_none, sliceOp, cut, upon_each, buildOk, lookup, lookV, update, elemOf, Option.isSome_map, unOp, wanted, aop, tkB, neD, Env.get, Env.put, Env.keep, putD, dstOk, ev, constV, nilSlice, V.demote, V.toOwn, V.cells, ty, R1.res, binOp, isShift, binOpT, isC, intOp, strOp, shiftOp, byteV, index, indexAddr, slice, bounds, hiB, loB, withB, maxV, minV, evs, pickV, lenV, builtin, initEnv, convert, K.isU8, strOf, load, store, fieldOf, append, appT, fltOp, cpxV, realV, imagV, toInt, rangeOp, nextOp, room, fill, placeOf, splice, repl, chunks, Ty.val, Ty.agg, V.plain, H.row, H.ety, AObj.row, Nat.reduceAdd, ↓reduceIte, Nat.reduceEqDiff, Nat.reduceBEq, Nat.reduceBNe, Nat.reduceLT, Int.reduceToNat, Int.reduceEq, Int.reduceLT, Int.reduceLE, reduceCtorEq, Nat.reduceMul, Nat.reduceLeDiff, S_api_Unit.enc, S_graph_wrong.enc]
        repeat (with_reducible refine And.intro (by first | omega | assumption) ?_)
        rw [wp_cond]
        simp only [RC, RL, RM, ↓evs_eq, loadN, V.slz, V.slz1, lnB, V.left, V.lenOf, slice3, sliceNil, Option.getD_none, sliceOp, cut, upon_each, buildOk, lookup, lookV, update, elemOf, Option.isSome_map, unOp, wanted, aop, tkB, neD, Env.get, Env.put, Env.keep, putD, dstOk, ev, constV, nilSlice, V.demote, V.toOwn, V.cells, ty, R1.res, binOp, isShift, binOpT, isC, intOp, strOp, shiftOp, byteV, index, indexAddr, slice, bounds, hiB, loB, withB, maxV, minV, evs, pickV, lenV, builtin, initEnv, convert, K.isU8, strOf, load, store, fieldOf, append, appT, fltOp, cpxV, realV, imagV, toInt, rangeOp, nextOp, room, fill, placeOf, splice, repl, chunks, Ty.val, Ty.agg, V.plain, H.row, H.ety, AObj.row, Nat.reduceAdd, ↓reduceIte, Nat.reduceEqDiff, Nat.reduceBEq, Nat.reduceBNe, Nat.reduceLT, Int.reduceToNat, Int.reduceEq, Int.reduceLT, Int.reduceLE, reduceCtorEq, Nat.reduceMul, Nat.reduceLeDiff, S_api_Unit.enc, S_graph_wrong.enc]
        by_cases hc51 : (gt x0 x13_28) = (gt x1 x13_28)
        · replace hq := (R.post_if hq).1 hc51
          refine condK_f (congrArg (fun b => V.bool (!b)) (decide_eq_true hc51)) ?_
          try simp only [wp_skip, RC]
          refine Wk.same ?_
          try simp only [RC]
          refine Wk.same ?_
          try simp only [RC]
          rw [wp_region]
          simp only [RC, RL, RM, ↓evs_eq, loadN, V.slz, V.slz1, lnB, V.left, V.lenOf, slice3, sliceNil, Option.getD_none, sliceOp, cut, upon_each, buildOk, lookup, lookV, update, elemOf, Option.isSome_map, unOp, wanted, aop, tkB, neD, Env.get, Env.put, Env.keep, putD, dstOk, ev, constV, nilSlice, V.demote, V.toOwn, V.cells, ty, R1.res, binOp, isShift, binOpT, isC, intOp, strOp, shiftOp, byteV, index, indexAddr, slice, bounds, hiB, loB, withB, maxV, minV, evs, pickV, lenV, builtin, initEnv, convert, K.isU8, strOf, load, store, fieldOf, append, appT, fltOp, cpxV, realV, imagV, toInt, rangeOp, nextOp, room, fill, placeOf, splice, repl, chunks, Ty.val, Ty.agg, V.plain, H.row, H.ety, AObj.row, Nat.reduceAdd, ↓reduceIte, Nat.reduceEqDiff, Nat.reduceBEq, Nat.reduceBNe, Nat.reduceLT, Int.reduceToNat, Int.reduceEq, Int.reduceLT, Int.reduceLE, reduceCtorEq, Nat.reduceMul, Nat.reduceLeDiff, S_api_Unit.enc, S_graph_wrong.enc]
          refine Wk.le (EnvLe.cons (.refl _) (EnvLe.cons (.refl _) (EnvLe.cons (.refl _) (EnvLe.cons (.top _) (EnvLe.cons (.refl _) (EnvLe.cons (.refl _) (EnvLe.cons (.refl _) (EnvLe.cons (.top _) (EnvLe.cons (.top _) EnvLe.nil))))))))) ?_
          exact hN41 (_, _, (IntKind.wrap .i64 (x13_28 + 1)), _, _) hq
        · replace hq := (R.post_if hq).2 hc51
          refine condK_t (congrArg (fun b => V.bool (!b)) (decide_eq_false hc51)) ?_
          rw [wp_seq]
          rw [wp_region]
          simp only [RC, RL, RM, ↓evs_eq, loadN, V.slz, V.slz1, lnB, V.left, V.lenOf, slice3, sliceNil, Option.getD_none, sliceOp, cut, upon_each, buildOk, lookup, lookV, update, elemOf, Option.isSome_map, unOp, wanted, aop, tkB, neD, Env.get, Env.put, Env.keep, putD, dstOk, ev, constV, nilSlice, V.demote, V.toOwn, V.cells, ty, R1.res, binOp, isShift, binOpT, isC, intOp, strOp, shiftOp, byteV, index, indexAddr, slice, bounds, hiB, loB, withB, maxV, minV, evs, pickV, lenV, builtin, initEnv, convert, K.isU8, strOf, load, store, fieldOf, append, appT, fltOp, cpxV, realV, imagV, toInt, rangeOp, nextOp, room, fill, placeOf, splice, repl, chunks, Ty.val, Ty.agg, V.plain, H.row, H.ety, AObj.row, Nat.reduceAdd, ↓reduceIte, Nat.reduceEqDiff, Nat.reduceBEq, Nat.reduceBNe, Nat.reduceLT, Int.reduceToNat, Int.reduceEq, Int.reduceLT, Int.reduceLE, reduceCtorEq, Nat.reduceMul, Nat.reduceLeDiff, S_api_Unit.enc, S_graph_wrong.enc]
          rw [wp_ret]
          simp only [retQ, results, resultAll, resultOne, Nat.zero_add, scopeQ, RC, RL, RM, ↓evs_eq, loadN, V.slz, V.slz1, lnB, V.left, V.lenOf, slice3, sliceNil, Option.getD_none, sliceOp, cut, upon_each, buildOk, lookup, lookV, update, elemOf, Option.isSome_map, unOp, wanted, aop, tkB, neD, Env.get, Env.put, Env.keep, putD, dstOk, ev, constV, nilSlice, V.demote, V.toOwn, V.cells, ty, R1.res, binOp, isShift, binOpT, isC, intOp, strOp, shiftOp, byteV, index, indexAddr, slice, bounds, hiB, loB, withB, maxV, minV, evs, pickV, lenV, builtin, initEnv, convert, K.isU8, strOf, load, store, fieldOf, append, appT, fltOp, cpxV, realV, imagV, toInt, rangeOp, nextOp, room, fill, placeOf, splice, repl, chunks, Ty.val, Ty.agg, V.plain, H.row, H.ety, AObj.row, Nat.reduceAdd, ↓reduceIte, Nat.reduceEqDiff, Nat.reduceBEq, Nat.reduceBNe, Nat.reduceLT, Int.reduceToNat, Int.reduceEq, Int.reduceLT, Int.reduceLE, reduceCtorEq, Nat.reduceMul, Nat.reduceLeDiff, S_api_Unit.enc, S_graph_wrong.enc]
          refine ⟨_, (.refl _), ?_⟩
          replace hq := hK40 _ hq
          exact hK _ hq
      · replace hq := (R.post_if hq).2 hc42
        refine condK_f (congrArg V.bool (decide_eq_false hc42)) ?_
        rw [wp_exit]
        try simp only [↓reduceIte, Nat.reduceEqDiff, reduceCtorEq, if_false, if_true, eq_self, Nat.succ_ne_self, RC]
        replace hq := hK40 _ hq
        try dsimp only at hq
        refine Wk.le (EnvLe.cons (.refl _) (EnvLe.cons (.refl _) (EnvLe.cons (.refl _) (EnvLe.cons (.refl _) (EnvLe.cons (.refl _) (EnvLe.cons (.top _) (EnvLe.cons (.top _) (EnvLe.cons (.top _) (EnvLe.cons (.refl _) EnvLe.nil))))))))) ?_
        try simp only [RC]
        exact hN27 (_, _, _, _, _, _) hq
  · replace hq := (R.post_if hq).2 hc2
    refine condK_t (congrArg (fun b => V.bool (!b)) (decide_eq_false hc2)) ?_
    rw [wp_seq]
    rw [wp_region]
    simp only [RC, RL, RM, ↓evs_eq, loadN, V.slz, V.slz1, lnB, V.left, V.lenOf, slice3, sliceNil, Option.getD_none, sliceOp, cut, upon_each, buildOk, lookup, lookV, update, elemOf, Option.isSome_map, unOp, wanted, aop, tkB, neD, Env.get, Env.put, Env.keep, putD, dstOk, ev, constV, nilSlice, V.demote, V.toOwn, V.cells, ty, R1.res, binOp, isShift, binOpT, isC, intOp, strOp, shiftOp, byteV, index, indexAddr, slice, bounds, hiB, loB, withB, maxV, minV, evs, pickV, lenV, builtin, initEnv, convert, K.isU8, strOf, load, store, fieldOf, append, appT, fltOp, cpxV, realV, imagV, toInt, rangeOp, nextOp, room, fill, placeOf, splice, repl, chunks, Ty.val, Ty.agg, V.plain, H.row, H.ety, AObj.row, Nat.reduceAdd, ↓reduceIte, Nat.reduceEqDiff, Nat.reduceBEq, Nat.reduceBNe, Nat.reduceLT, Int.reduceToNat, Int.reduceEq, Int.reduceLT, Int.reduceLE, reduceCtorEq, Nat.reduceMul, Nat.reduceLeDiff, S_api_Unit.enc, S_graph_wrong.enc]
    rw [wp_ret]
    simp only [retQ, results, resultAll, resultOne, Nat.zero_add, scopeQ, RC, RL, RM, ↓evs_eq, loadN, V.slz, V.slz1, lnB, V.left, V.lenOf, slice3, sliceNil, Option.getD_none, sliceOp, cut, upon_each, buildOk, lookup, lookV, update, elemOf, Option.isSome_map, unOp, wanted, aop, tkB, neD, Env.get, Env.put, Env.keep, putD, dstOk, ev, constV, nilSlice, V.demote, V.toOwn, V.cells, ty, R1.res, binOp, isShift, binOpT, isC, intOp, strOp, shiftOp, byteV, index, indexAddr, slice, bounds, hiB, loB, withB, maxV, minV, evs, pickV, lenV, builtin, initEnv, convert, K.isU8, strOf, load, store, fieldOf, append, appT, fltOp, cpxV, realV, imagV, toInt, rangeOp, nextOp, room, fill, placeOf, splice, repl, chunks, Ty.val, Ty.agg, V.plain, H.row, H.ety, AObj.row, Nat.reduceAdd, ↓reduceIte, Nat.reduceEqDiff, Nat.reduceBEq, Nat.reduceBNe, Nat.reduceLT, Int.reduceToNat, Int.reduceEq, Int.reduceLT, Int.reduceLE, reduceCtorEq, Nat.reduceMul, Nat.reduceLeDiff, S_api_Unit.enc, S_graph_wrong.enc]
    refine ⟨_, (.refl _), ?_⟩
    exact hK _ hq

def glossarylaw10_GraphOrders (x0 : List S_api_Unit) (x1 : List (List UInt8)) : R (Bool) :=
  (glossarylaw10_awake).bind fun r11 => if r11 = true then (((glossarylaw10_few x0).bind fun r27 => if r27 = true then (R.ok (decide ((30 : Int) < (List.length x1 : Int)))) else (R.ok true)).bind fun x20m23 => if x20m23 = true then (R.ok true) else ((graph_Order x0 x1).bind fun r35 => (glossaryref10_Order x0 x1).bind fun r39 => ((glossaryref10_Same r35.1 r39.1).bind fun r49 => if r49 = true then (if r35.2.1 = r39.2.1 then (R.ok (decide (r35.2.2 = r39.2.2))) else (R.ok false)) else (R.ok false)).bind fun x4m45 => R.ok x4m45)) else (R.ok false)
theorem glossarylaw10_GraphOrders_call {h : H} {x0 : List S_api_Unit} {x1 : List (List UInt8)} {Q : Out → H → Prop} {KK : (Bool) → Prop} {X : V → Prop} (hq : (glossarylaw10_GraphOrders x0 x1).post KK X) (hK : ∀ r, KK r → Q (.ret (.bool r)) h) (hX : ∀ v, X v → V.Cl 0 v ∧ Q (.panic v) h) : CA qprim 3 [.sl 3 (List.map S_api_Unit.enc x0), .sl 1 (List.map V.str x1)] h Q := by
  refine acalln hp Try.func3 rfl (by kernel_rfl) (n := 48) rfl (rs := [.tmp 4]) rfl [0, 1, 4, 5, 6, 7, 8, 9, 10, 12, 20] [] false (by simp) ?_
  unfold glossarylaw10_GraphOrders at hq
  simp only [initEnv, List.map_cons, List.map_nil, List.getD_cons_zero, List.getD_cons_succ, List.getD_nil, V.demote]
  rw [wp_seq]
  rw [wp_region]
  simp only [RC, RL, RM, ↓evs_eq, loadN, V.slz, V.slz1, lnB, V.left, V.lenOf, slice3, sliceNil, Option.getD_none, sliceOp, cut, upon_each, buildOk, lookup, lookV, update, elemOf, Option.isSome_map, unOp, wanted, aop, tkB, neD, Env.get, Env.put, Env.keep, putD, dstOk, ev, constV, nilSlice, V.demote, V.toOwn, V.cells, ty, R1.res, binOp, isShift, binOpT, isC, intOp, strOp, shiftOp, byteV, index, indexAddr, slice, bounds, hiB, loB, withB, maxV, minV, evs, pickV, lenV, builtin, initEnv, convert, K.isU8, strOf, load, store, fieldOf, append, appT, fltOp, cpxV, realV, imagV, toInt, rangeOp, nextOp, room, fill, placeOf, splice, repl, chunks, Ty.val, Ty.agg, V.plain, H.row, H.ety, AObj.row, Nat.reduceAdd, ↓reduceIte, Nat.reduceEqDiff, Nat.reduceBEq, Nat.reduceBNe, Nat.reduceLT, Int.reduceToNat, Int.reduceEq, Int.reduceLT, Int.reduceLE, reduceCtorEq, Nat.reduceMul, Nat.reduceLeDiff, S_api_Unit.enc, S_graph_wrong.enc]
  rw [wp_seq]
  rw [wp_seq]
  rw [wp_region]
  simp only [RC, RL, RM, ↓evs_eq, loadN, V.slz, V.slz1, lnB, V.left, V.lenOf, slice3, sliceNil, Option.getD_none, sliceOp, cut, upon_each, buildOk, lookup, lookV, update, elemOf, Option.isSome_map, unOp, wanted, aop, tkB, neD, Env.get, Env.put, Env.keep, putD, dstOk, ev, constV, nilSlice, V.demote, V.toOwn, V.cells, ty, R1.res, binOp, isShift, binOpT, isC, intOp, strOp, shiftOp, byteV, index, indexAddr, slice, bounds, hiB, loB, withB, maxV, minV, evs, pickV, lenV, builtin, initEnv, convert, K.isU8, strOf, load, store, fieldOf, append, appT, fltOp, cpxV, realV, imagV, toInt, rangeOp, nextOp, room, fill, placeOf, splice, repl, chunks, Ty.val, Ty.agg, V.plain, H.row, H.ety, AObj.row, Nat.reduceAdd, ↓reduceIte, Nat.reduceEqDiff, Nat.reduceBEq, Nat.reduceBNe, Nat.reduceLT, Int.reduceToNat, Int.reduceEq, Int.reduceLT, Int.reduceLE, reduceCtorEq, Nat.reduceMul, Nat.reduceLeDiff, S_api_Unit.enc, S_graph_wrong.enc]
  obtain ⟨K58, hK59, hq⟩ := R.post_cut hq
  refine glossarylaw10_awake_call hq (fun r11 hq => ?_) (fun v hv => ⟨(hX v hv).1, ?_⟩)
  · replace hq := hK59 _ hq
    simp only [RC, RL, RM, ↓evs_eq, loadN, V.slz, V.slz1, lnB, V.left, V.lenOf, slice3, sliceNil, Option.getD_none, sliceOp, cut, upon_each, buildOk, lookup, lookV, update, elemOf, Option.isSome_map, unOp, wanted, aop, tkB, neD, Env.get, Env.put, Env.keep, putD, dstOk, ev, constV, nilSlice, V.demote, V.toOwn, V.cells, ty, R1.res, binOp, isShift, binOpT, isC, intOp, strOp, shiftOp, byteV, index, indexAddr, slice, bounds, hiB, loB, withB, maxV, minV, evs, pickV, lenV, builtin, initEnv, convert, K.isU8, strOf, load, store, fieldOf, append, appT, fltOp, cpxV, realV, imagV, toInt, rangeOp, nextOp, room, fill, placeOf, splice, repl, chunks, Ty.val, Ty.agg, V.plain, H.row, H.ety, AObj.row, Nat.reduceAdd, ↓reduceIte, Nat.reduceEqDiff, Nat.reduceBEq, Nat.reduceBNe, Nat.reduceLT, Int.reduceToNat, Int.reduceEq, Int.reduceLT, Int.reduceLE, reduceCtorEq, Nat.reduceMul, Nat.reduceLeDiff, S_api_Unit.enc, S_graph_wrong.enc]
    rw [wp_cond]
    simp only [RC, RL, RM, ↓evs_eq, loadN, V.slz, V.slz1, lnB, V.left, V.lenOf, slice3, sliceNil, Option.getD_none, sliceOp, cut, upon_each, buildOk, lookup, lookV, update, elemOf, Option.isSome_map, unOp, wanted, aop, tkB, neD, Env.get, Env.put, Env.keep, putD, dstOk, ev, constV, nilSlice, V.demote, V.toOwn, V.cells, ty, R1.res, binOp, isShift, binOpT, isC, intOp, strOp, shiftOp, byteV, index, indexAddr, slice, bounds, hiB, loB, withB, maxV, minV, evs, pickV, lenV, builtin, initEnv, convert, K.isU8, strOf, load, store, fieldOf, append, appT, fltOp, cpxV, realV, imagV, toInt, rangeOp, nextOp, room, fill, placeOf, splice, repl, chunks, Ty.val, Ty.agg, V.plain, H.row, H.ety, AObj.row, Nat.reduceAdd, ↓reduceIte, Nat.reduceEqDiff, Nat.reduceBEq, Nat.reduceBNe, Nat.reduceLT, Int.reduceToNat, Int.reduceEq, Int.reduceLT, Int.reduceLE, reduceCtorEq, Nat.reduceMul, Nat.reduceLeDiff, S_api_Unit.enc, S_graph_wrong.enc]
    by_cases hc12 : r11 = true
    · replace hq := (R.post_if hq).1 hc12
      refine condK_f (congrArg (fun b => V.bool (!b)) (hc12)) ?_
      try simp only [wp_skip, RC]
      refine Wk.same ?_
      try simp only [RC]
      rw [wp_seq]
      obtain ⟨K24, hK25, hq⟩ := R.post_cut hq
      refine seq_gen (acall_mono hp) (σ := Bool) (fun s => [(0, .sl 3 (List.map S_api_Unit.enc x0)), (1, .sl 1 (List.map V.str x1)), (4, .bool false), (5, .top), (6, .top), (7, .top), (8, .top), (9, .top), (10, .top), (12, .bool (!r11)), (20, .bool s)]) (fun s => h) (fun s => K24 s) (fun x20m23 hq => ?_) (fun N hN26 => ?_)
      · replace hq := hK25 _ hq
        try dsimp only at hq ⊢
        rw [wp_cond]
        simp only [RC, RL, RM, ↓evs_eq, loadN, V.slz, V.slz1, lnB, V.left, V.lenOf, slice3, sliceNil, Option.getD_none, sliceOp, cut, upon_each, buildOk, lookup, lookV, update, elemOf, Option.isSome_map, unOp, wanted, aop, tkB, neD, Env.get, Env.put, Env.keep, putD, dstOk, ev, constV, nilSlice, V.demote, V.toOwn, V.cells, ty, R1.res, binOp, isShift, binOpT, isC, intOp, strOp, shiftOp, byteV, index, indexAddr, slice, bounds, hiB, loB, withB, maxV, minV, evs, pickV, lenV, builtin, initEnv, convert, K.isU8, strOf, load, store, fieldOf, append, appT, fltOp, cpxV, realV, imagV, toInt, rangeOp, nextOp, room, fill, placeOf, splice, repl, chunks, Ty.val, Ty.agg, V.plain, H.row, H.ety, AObj.row, Nat.reduceAdd, ↓reduceIte, Nat.reduceEqDiff, Nat.reduceBEq, Nat.reduceBNe, Nat.reduceLT, Int.reduceToNat, Int.reduceEq, Int.reduceLT, Int.reduceLE, reduceCtorEq, Nat.reduceMul, Nat.reduceLeDiff, S_api_Unit.enc, S_graph_wrong.enc]
        by_cases hc31 : x20m23 = true
        · replace hq := (R.post_if hq).1 hc31
          refine condK_t (congrArg V.bool (hc31)) ?_
          rw [wp_seq]
          rw [wp_region]
          simp only [RC, RL, RM, ↓evs_eq, loadN, V.slz, V.slz1, lnB, V.left, V.lenOf, slice3, sliceNil, Option.getD_none, sliceOp, cut, upon_each, buildOk, lookup, lookV, update, elemOf, Option.isSome_map, unOp, wanted, aop, tkB, neD, Env.get, Env.put, Env.keep, putD, dstOk, ev, constV, nilSlice, V.demote, V.toOwn, V.cells, ty, R1.res, binOp, isShift, binOpT, isC, intOp, strOp, shiftOp, byteV, index, indexAddr, slice, bounds, hiB, loB, withB, maxV, minV, evs, pickV, lenV, builtin, initEnv, convert, K.isU8, strOf, load, store, fieldOf, append, appT, fltOp, cpxV, realV, imagV, toInt, rangeOp, nextOp, room, fill, placeOf, splice, repl, chunks, Ty.val, Ty.agg, V.plain, H.row, H.ety, AObj.row, Nat.reduceAdd, ↓reduceIte, Nat.reduceEqDiff, Nat.reduceBEq, Nat.reduceBNe, Nat.reduceLT, Int.reduceToNat, Int.reduceEq, Int.reduceLT, Int.reduceLE, reduceCtorEq, Nat.reduceMul, Nat.reduceLeDiff, S_api_Unit.enc, S_graph_wrong.enc]
          rw [wp_ret]
          simp only [retQ, results, resultAll, resultOne, Nat.zero_add, scopeQ, RC, RL, RM, ↓evs_eq, loadN, V.slz, V.slz1, lnB, V.left, V.lenOf, slice3, sliceNil, Option.getD_none, sliceOp, cut, upon_each, buildOk, lookup, lookV, update, elemOf, Option.isSome_map, unOp, wanted, aop, tkB, neD, Env.get, Env.put, Env.keep, putD, dstOk, ev, constV, nilSlice, V.demote, V.toOwn, V.cells, ty, R1.res, binOp, isShift, binOpT, isC, intOp, strOp, shiftOp, byteV, index, indexAddr, slice, bounds, hiB, loB, withB, maxV, minV, evs, pickV, lenV, builtin, initEnv, convert, K.isU8, strOf, load, store, fieldOf, append, appT, fltOp, cpxV, realV, imagV, toInt, rangeOp, nextOp, room, fill, placeOf, splice, repl, chunks, Ty.val, Ty.agg, V.plain, H.row, H.ety, AObj.row, Nat.reduceAdd, ↓reduceIte, Nat.reduceEqDiff, Nat.reduceBEq, Nat.reduceBNe, Nat.reduceLT, Int.reduceToNat, Int.reduceEq, Int.reduceLT, Int.reduceLE, reduceCtorEq, Nat.reduceMul, Nat.reduceLeDiff, S_api_Unit.enc, S_graph_wrong.enc]
          refine ⟨_, (.refl _), ?_⟩
          exact hK _ hq
        · replace hq := (R.post_if hq).2 hc31
          replace hc31 := eq_false_of_ne_true hc31
          refine condK_f (congrArg V.bool (hc31)) ?_
          try simp only [wp_skip, RC]
          refine Wk.same ?_
          try simp only [RC]
          rw [wp_seq]
          rw [wp_region]
          simp only [RC, RL, RM, ↓evs_eq, loadN, V.slz, V.slz1, lnB, V.left, V.lenOf, slice3, sliceNil, Option.getD_none, sliceOp, cut, upon_each, buildOk, lookup, lookV, update, elemOf, Option.isSome_map, unOp, wanted, aop, tkB, neD, Env.get, Env.put, Env.keep, putD, dstOk, ev, constV, nilSlice, V.demote, V.toOwn, V.cells, ty, R1.res, binOp, isShift, binOpT, isC, intOp, strOp, shiftOp, byteV, index, indexAddr, slice, bounds, hiB, loB, withB, maxV, minV, evs, pickV, lenV, builtin, initEnv, convert, K.isU8, strOf, load, store, fieldOf, append, appT, fltOp, cpxV, realV, imagV, toInt, rangeOp, nextOp, room, fill, placeOf, splice, repl, chunks, Ty.val, Ty.agg, V.plain, H.row, H.ety, AObj.row, Nat.reduceAdd, ↓reduceIte, Nat.reduceEqDiff, Nat.reduceBEq, Nat.reduceBNe, Nat.reduceLT, Int.reduceToNat, Int.reduceEq, Int.reduceLT, Int.reduceLE, reduceCtorEq, Nat.reduceMul, Nat.reduceLeDiff, S_api_Unit.enc, S_graph_wrong.enc]
          obtain ⟨K56, hK57, hq⟩ := R.post_cut hq
          refine graph_Order_call (x0 := x0) (x1 := x1) hq (fun r35 hq => ?_) (fun v hv => ⟨(hX v hv).1, ?_⟩)
          · replace hq := hK57 _ hq
            simp only [RC, RL, RM, ↓evs_eq, loadN, V.slz, V.slz1, lnB, V.left, V.lenOf, slice3, sliceNil, Option.getD_none, sliceOp, cut, upon_each, buildOk, lookup, lookV, update, elemOf, Option.isSome_map, unOp, wanted, aop, tkB, neD, Env.get, Env.put, Env.keep, putD, dstOk, ev, constV, nilSlice, V.demote, V.toOwn, V.cells, ty, R1.res, binOp, isShift, binOpT, isC, intOp, strOp, shiftOp, byteV, index, indexAddr, slice, bounds, hiB, loB, withB, maxV, minV, evs, pickV, lenV, builtin, initEnv, convert, K.isU8, strOf, load, store, fieldOf, append, appT, fltOp, cpxV, realV, imagV, toInt, rangeOp, nextOp, room, fill, placeOf, splice, repl, chunks, Ty.val, Ty.agg, V.plain, H.row, H.ety, AObj.row, Nat.reduceAdd, ↓reduceIte, Nat.reduceEqDiff, Nat.reduceBEq, Nat.reduceBNe, Nat.reduceLT, Int.reduceToNat, Int.reduceEq, Int.reduceLT, Int.reduceLE, reduceCtorEq, Nat.reduceMul, Nat.reduceLeDiff, S_api_Unit.enc, S_graph_wrong.enc]
            rw [wp_seq]
            rw [wp_region]
            simp only [RC, RL, RM, ↓evs_eq, loadN, V.slz, V.slz1, lnB, V.left, V.lenOf, slice3, sliceNil, Option.getD_none, sliceOp, cut, upon_each, buildOk, lookup, lookV, update, elemOf, Option.isSome_map, unOp, wanted, aop, tkB, neD, Env.get, Env.put, Env.keep, putD, dstOk, ev, constV, nilSlice, V.demote, V.toOwn, V.cells, ty, R1.res, binOp, isShift, binOpT, isC, intOp, strOp, shiftOp, byteV, index, indexAddr, slice, bounds, hiB, loB, withB, maxV, minV, evs, pickV, lenV, builtin, initEnv, convert, K.isU8, strOf, load, store, fieldOf, append, appT, fltOp, cpxV, realV, imagV, toInt, rangeOp, nextOp, room, fill, placeOf, splice, repl, chunks, Ty.val, Ty.agg, V.plain, H.row, H.ety, AObj.row, Nat.reduceAdd, ↓reduceIte, Nat.reduceEqDiff, Nat.reduceBEq, Nat.reduceBNe, Nat.reduceLT, Int.reduceToNat, Int.reduceEq, Int.reduceLT, Int.reduceLE, reduceCtorEq, Nat.reduceMul, Nat.reduceLeDiff, S_api_Unit.enc, S_graph_wrong.enc]
            obtain ⟨K54, hK55, hq⟩ := R.post_cut hq
            refine glossaryref10_Order_call (x0 := x0) (x1 := x1) hq (fun r39 hq => ?_) (fun v hv => ⟨(hX v hv).1, ?_⟩)
            · replace hq := hK55 _ hq
              simp only [RC, RL, RM, ↓evs_eq, loadN, V.slz, V.slz1, lnB, V.left, V.lenOf, slice3, sliceNil, Option.getD_none, sliceOp, cut, upon_each, buildOk, lookup, lookV, update, elemOf, Option.isSome_map, unOp, wanted, aop, tkB, neD, Env.get, Env.put, Env.keep, putD, dstOk, ev, constV, nilSlice, V.demote, V.toOwn, V.cells, ty, R1.res, binOp, isShift, binOpT, isC, intOp, strOp, shiftOp, byteV, index, indexAddr, slice, bounds, hiB, loB, withB, maxV, minV, evs, pickV, lenV, builtin, initEnv, convert, K.isU8, strOf, load, store, fieldOf, append, appT, fltOp, cpxV, realV, imagV, toInt, rangeOp, nextOp, room, fill, placeOf, splice, repl, chunks, Ty.val, Ty.agg, V.plain, H.row, H.ety, AObj.row, Nat.reduceAdd, ↓reduceIte, Nat.reduceEqDiff, Nat.reduceBEq, Nat.reduceBNe, Nat.reduceLT, Int.reduceToNat, Int.reduceEq, Int.reduceLT, Int.reduceLE, reduceCtorEq, Nat.reduceMul, Nat.reduceLeDiff, S_api_Unit.enc, S_graph_wrong.enc]
              obtain ⟨K46, hK47, hq⟩ := R.post_cut hq
              refine seq_gen (acall_mono hp) (σ := Bool) (fun s => [(0, .sl 3 (List.map S_api_Unit.enc x0)), (1, .sl 1 (List.map V.str x1)), (4, .bool s), (5, .sl 1 (List.map V.str r35.1)), (6, .str r35.2.1), (7, .int .i64 r35.2.2), (8, .sl 1 (List.map V.str r39.1)), (9, .str r39.2.1), (10, .int .i64 r39.2.2), (12, .bool (!r11)), (20, .bool x20m23)]) (fun s => h) (fun s => K46 s) (fun x4m45 hq => ?_) (fun N hN48 => ?_)
              · replace hq := hK47 _ hq
                try dsimp only at hq ⊢
                rw [wp_ret]
                simp only [retQ, results, resultAll, resultOne, Nat.zero_add, scopeQ, RC, RL, RM, ↓evs_eq, loadN, V.slz, V.slz1, lnB, V.left, V.lenOf, slice3, sliceNil, Option.getD_none, sliceOp, cut, upon_each, buildOk, lookup, lookV, update, elemOf, Option.isSome_map, unOp, wanted, aop, tkB, neD, Env.get, Env.put, Env.keep, putD, dstOk, ev, constV, nilSlice, V.demote, V.toOwn, V.cells, ty, R1.res, binOp, isShift, binOpT, isC, intOp, strOp, shiftOp, byteV, index, indexAddr, slice, bounds, hiB, loB, withB, maxV, minV, evs, pickV, lenV, builtin, initEnv, convert, K.isU8, strOf, load, store, fieldOf, append, appT, fltOp, cpxV, realV, imagV, toInt, rangeOp, nextOp, room, fill, placeOf, splice, repl, chunks, Ty.val, Ty.agg, V.plain, H.row, H.ety, AObj.row, Nat.reduceAdd, ↓reduceIte, Nat.reduceEqDiff, Nat.reduceBEq, Nat.reduceBNe, Nat.reduceLT, Int.reduceToNat, Int.reduceEq, Int.reduceLT, Int.reduceLE, reduceCtorEq, Nat.reduceMul, Nat.reduceLeDiff, S_api_Unit.enc, S_graph_wrong.enc]
                refine ⟨_, (.refl _), ?_⟩
                exact hK _ hq
              · rw [wp_region]
                simp only [RC, RL, RM, ↓evs_eq, loadN, V.slz, V.slz1, lnB, V.left, V.lenOf, slice3, sliceNil, Option.getD_none, sliceOp, cut, upon_each, buildOk, lookup, lookV, update, elemOf, Option.isSome_map, unOp, wanted, aop, tkB, neD, Env.get, Env.put, Env.keep, putD, dstOk, ev, constV, nilSlice, V.demote, V.toOwn, V.cells, ty, R1.res, binOp, isShift, binOpT, isC, intOp, strOp, shiftOp, byteV, index, indexAddr, slice, bounds, hiB, loB, withB, maxV, minV, evs, pickV, lenV, builtin, initEnv, convert, K.isU8, strOf, load, store, fieldOf, append, appT, fltOp, cpxV, realV, imagV, toInt, rangeOp, nextOp, room, fill, placeOf, splice, repl, chunks, Ty.val, Ty.agg, V.plain, H.row, H.ety, AObj.row, Nat.reduceAdd, ↓reduceIte, Nat.reduceEqDiff, Nat.reduceBEq, Nat.reduceBNe, Nat.reduceLT, Int.reduceToNat, Int.reduceEq, Int.reduceLT, Int.reduceLE, reduceCtorEq, Nat.reduceMul, Nat.reduceLeDiff, S_api_Unit.enc, S_graph_wrong.enc]
                obtain ⟨K52, hK53, hq⟩ := R.post_cut hq
                refine glossaryref10_Same_call (x0 := r35.1) (x1 := r39.1) hq (fun r49 hq => ?_) (fun v hv => ⟨(hX v hv).1, ?_⟩)
                · replace hq := hK53 _ hq
                  simp only [RC, RL, RM, ↓evs_eq, loadN, V.slz, V.slz1, lnB, V.left, V.lenOf, slice3, sliceNil, Option.getD_none, sliceOp, cut, upon_each, buildOk, lookup, lookV, update, elemOf, Option.isSome_map, unOp, wanted, aop, tkB, neD, Env.get, Env.put, Env.keep, putD, dstOk, ev, constV, nilSlice, V.demote, V.toOwn, V.cells, ty, R1.res, binOp, isShift, binOpT, isC, intOp, strOp, shiftOp, byteV, index, indexAddr, slice, bounds, hiB, loB, withB, maxV, minV, evs, pickV, lenV, builtin, initEnv, convert, K.isU8, strOf, load, store, fieldOf, append, appT, fltOp, cpxV, realV, imagV, toInt, rangeOp, nextOp, room, fill, placeOf, splice, repl, chunks, Ty.val, Ty.agg, V.plain, H.row, H.ety, AObj.row, Nat.reduceAdd, ↓reduceIte, Nat.reduceEqDiff, Nat.reduceBEq, Nat.reduceBNe, Nat.reduceLT, Int.reduceToNat, Int.reduceEq, Int.reduceLT, Int.reduceLE, reduceCtorEq, Nat.reduceMul, Nat.reduceLeDiff, S_api_Unit.enc, S_graph_wrong.enc]
                  by_cases hc50 : r49 = true
                  · replace hq := (R.post_if hq).1 hc50
                    simp only [hc50, RC, RL, RM, ↓evs_eq, loadN, V.slz, V.slz1, lnB, V.left, V.lenOf, slice3, sliceNil, Option.getD_none, sliceOp, cut, upon_each, buildOk, lookup, lookV, update, elemOf, Option.isSome_map, unOp, wanted, aop, tkB, neD, Env.get, Env.put, Env.keep, putD, dstOk, ev, constV, nilSlice, V.demote, V.toOwn, V.cells, ty, R1.res, binOp, isShift, binOpT, isC, intOp, strOp, shiftOp, byteV, index, indexAddr, slice, bounds, hiB, loB, withB, maxV, minV, evs, pickV, lenV, builtin, initEnv, convert, K.isU8, strOf, load, store, fieldOf, append, appT, fltOp, cpxV, realV, imagV, toInt, rangeOp, nextOp, room, fill, placeOf, splice, repl, chunks, Ty.val, Ty.agg, V.plain, H.row, H.ety, AObj.row, Nat.reduceAdd, ↓reduceIte, Nat.reduceEqDiff, Nat.reduceBEq, Nat.reduceBNe, Nat.reduceLT, Int.reduceToNat, Int.reduceEq, Int.reduceLT, Int.reduceLE, reduceCtorEq, Nat.reduceMul, Nat.reduceLeDiff, S_api_Unit.enc, S_graph_wrong.enc]
                    by_cases hc51 : r35.2.1 = r39.2.1
                    · replace hq := (R.post_if hq).1 hc51
                      simp only [decide_eq_true hc51, RC, RL, RM, ↓evs_eq, loadN, V.slz, V.slz1, lnB, V.left, V.lenOf, slice3, sliceNil, Option.getD_none, sliceOp, cut, upon_each, buildOk, lookup, lookV, update, elemOf, Option.isSome_map, unOp, wanted, aop, tkB, neD, Env.get, Env.put, Env.keep, putD, dstOk, ev, constV, nilSlice, V.demote, V.toOwn, V.cells, ty, R1.res, binOp, isShift, binOpT, isC, intOp, strOp, shiftOp, byteV, index, indexAddr, slice, bounds, hiB, loB, withB, maxV, minV, evs, pickV, lenV, builtin, initEnv, convert, K.isU8, strOf, load, store, fieldOf, append, appT, fltOp, cpxV, realV, imagV, toInt, rangeOp, nextOp, room, fill, placeOf, splice, repl, chunks, Ty.val, Ty.agg, V.plain, H.row, H.ety, AObj.row, Nat.reduceAdd, ↓reduceIte, Nat.reduceEqDiff, Nat.reduceBEq, Nat.reduceBNe, Nat.reduceLT, Int.reduceToNat, Int.reduceEq, Int.reduceLT, Int.reduceLE, reduceCtorEq, Nat.reduceMul, Nat.reduceLeDiff, S_api_Unit.enc, S_graph_wrong.enc]
                      exact hN48 (decide (r35.2.2 = r39.2.2)) hq
                    · replace hq := (R.post_if hq).2 hc51
                      simp only [decide_eq_false hc51, RC, RL, RM, ↓evs_eq, loadN, V.slz, V.slz1, lnB, V.left, V.lenOf, slice3, sliceNil, Option.getD_none, sliceOp, cut, upon_each, buildOk, lookup, lookV, update, elemOf, Option.isSome_map, unOp, wanted, aop, tkB, neD, Env.get, Env.put, Env.keep, putD, dstOk, ev, constV, nilSlice, V.demote, V.toOwn, V.cells, ty, R1.res, binOp, isShift, binOpT, isC, intOp, strOp, shiftOp, byteV, index, indexAddr, slice, bounds, hiB, loB, withB, maxV, minV, evs, pickV, lenV, builtin, initEnv, convert, K.isU8, strOf, load, store, fieldOf, append, appT, fltOp, cpxV, realV, imagV, toInt, rangeOp, nextOp, room, fill, placeOf, splice, repl, chunks, Ty.val, Ty.agg, V.plain, H.row, H.ety, AObj.row, Nat.reduceAdd, ↓reduceIte, Nat.reduceEqDiff, Nat.reduceBEq, Nat.reduceBNe, Nat.reduceLT, Int.reduceToNat, Int.reduceEq, Int.reduceLT, Int.reduceLE, reduceCtorEq, Nat.reduceMul, Nat.reduceLeDiff, S_api_Unit.enc, S_graph_wrong.enc]
                      exact hN48 false hq
                  · replace hq := (R.post_if hq).2 hc50
                    replace hc50 := eq_false_of_ne_true hc50
                    simp only [hc50, RC, RL, RM, ↓evs_eq, loadN, V.slz, V.slz1, lnB, V.left, V.lenOf, slice3, sliceNil, Option.getD_none, sliceOp, cut, upon_each, buildOk, lookup, lookV, update, elemOf, Option.isSome_map, unOp, wanted, aop, tkB, neD, Env.get, Env.put, Env.keep, putD, dstOk, ev, constV, nilSlice, V.demote, V.toOwn, V.cells, ty, R1.res, binOp, isShift, binOpT, isC, intOp, strOp, shiftOp, byteV, index, indexAddr, slice, bounds, hiB, loB, withB, maxV, minV, evs, pickV, lenV, builtin, initEnv, convert, K.isU8, strOf, load, store, fieldOf, append, appT, fltOp, cpxV, realV, imagV, toInt, rangeOp, nextOp, room, fill, placeOf, splice, repl, chunks, Ty.val, Ty.agg, V.plain, H.row, H.ety, AObj.row, Nat.reduceAdd, ↓reduceIte, Nat.reduceEqDiff, Nat.reduceBEq, Nat.reduceBNe, Nat.reduceLT, Int.reduceToNat, Int.reduceEq, Int.reduceLT, Int.reduceLE, reduceCtorEq, Nat.reduceMul, Nat.reduceLeDiff, S_api_Unit.enc, S_graph_wrong.enc]
                    exact hN48 false hq
                · simp only [RC, scopeQ, retQ, ↓reduceIte, Bool.false_eq_true]
                  exact (hX _ hv).2
            · simp only [RC, scopeQ, retQ, ↓reduceIte, Bool.false_eq_true]
              exact (hX _ hv).2
          · simp only [RC, scopeQ, retQ, ↓reduceIte, Bool.false_eq_true]
            exact (hX _ hv).2
      · rw [wp_region]
        simp only [RC, RL, RM, ↓evs_eq, loadN, V.slz, V.slz1, lnB, V.left, V.lenOf, slice3, sliceNil, Option.getD_none, sliceOp, cut, upon_each, buildOk, lookup, lookV, update, elemOf, Option.isSome_map, unOp, wanted, aop, tkB, neD, Env.get, Env.put, Env.keep, putD, dstOk, ev, constV, nilSlice, V.demote, V.toOwn, V.cells, ty, R1.res, binOp, isShift, binOpT, isC, intOp, strOp, shiftOp, byteV, index, indexAddr, slice, bounds, hiB, loB, withB, maxV, minV, evs, pickV, lenV, builtin, initEnv, convert, K.isU8, strOf, load, store, fieldOf, append, appT, fltOp, cpxV, realV, imagV, toInt, rangeOp, nextOp, room, fill, placeOf, splice, repl, chunks, Ty.val, Ty.agg, V.plain, H.row, H.ety, AObj.row, Nat.reduceAdd, ↓reduceIte, Nat.reduceEqDiff, Nat.reduceBEq, Nat.reduceBNe, Nat.reduceLT, Int.reduceToNat, Int.reduceEq, Int.reduceLT, Int.reduceLE, reduceCtorEq, Nat.reduceMul, Nat.reduceLeDiff, S_api_Unit.enc, S_graph_wrong.enc]
        obtain ⟨K29, hK30, hq⟩ := R.post_cut hq
        refine glossarylaw10_few_call (x0 := x0) hq (fun r27 hq => ?_) (fun v hv => ⟨(hX v hv).1, ?_⟩)
        · replace hq := hK30 _ hq
          simp only [RC, RL, RM, ↓evs_eq, loadN, V.slz, V.slz1, lnB, V.left, V.lenOf, slice3, sliceNil, Option.getD_none, sliceOp, cut, upon_each, buildOk, lookup, lookV, update, elemOf, Option.isSome_map, unOp, wanted, aop, tkB, neD, Env.get, Env.put, Env.keep, putD, dstOk, ev, constV, nilSlice, V.demote, V.toOwn, V.cells, ty, R1.res, binOp, isShift, binOpT, isC, intOp, strOp, shiftOp, byteV, index, indexAddr, slice, bounds, hiB, loB, withB, maxV, minV, evs, pickV, lenV, builtin, initEnv, convert, K.isU8, strOf, load, store, fieldOf, append, appT, fltOp, cpxV, realV, imagV, toInt, rangeOp, nextOp, room, fill, placeOf, splice, repl, chunks, Ty.val, Ty.agg, V.plain, H.row, H.ety, AObj.row, Nat.reduceAdd, ↓reduceIte, Nat.reduceEqDiff, Nat.reduceBEq, Nat.reduceBNe, Nat.reduceLT, Int.reduceToNat, Int.reduceEq, Int.reduceLT, Int.reduceLE, reduceCtorEq, Nat.reduceMul, Nat.reduceLeDiff, S_api_Unit.enc, S_graph_wrong.enc]
          by_cases hc28 : r27 = true
          · replace hq := (R.post_if hq).1 hc28
            simp only [hc28, RC, RL, RM, ↓evs_eq, loadN, V.slz, V.slz1, lnB, V.left, V.lenOf, slice3, sliceNil, Option.getD_none, sliceOp, cut, upon_each, buildOk, lookup, lookV, update, elemOf, Option.isSome_map, unOp, wanted, aop, tkB, neD, Env.get, Env.put, Env.keep, putD, dstOk, ev, constV, nilSlice, V.demote, V.toOwn, V.cells, ty, R1.res, binOp, isShift, binOpT, isC, intOp, strOp, shiftOp, byteV, index, indexAddr, slice, bounds, hiB, loB, withB, maxV, minV, evs, pickV, lenV, builtin, initEnv, convert, K.isU8, strOf, load, store, fieldOf, append, appT, fltOp, cpxV, realV, imagV, toInt, rangeOp, nextOp, room, fill, placeOf, splice, repl, chunks, Ty.val, Ty.agg, V.plain, H.row, H.ety, AObj.row, Nat.reduceAdd, ↓reduceIte, Nat.reduceEqDiff, Nat.reduceBEq, Nat.reduceBNe, Nat.reduceLT, Int.reduceToNat, Int.reduceEq, Int.reduceLT, Int.reduceLE, reduceCtorEq, Nat.reduceMul, Nat.reduceLeDiff, S_api_Unit.enc, S_graph_wrong.enc]
            exact hN26 (decide ((30 : Int) < (List.length x1 : Int))) hq
          · replace hq := (R.post_if hq).2 hc28
            replace hc28 := eq_false_of_ne_true hc28
            simp only [hc28, RC, RL, RM, ↓evs_eq, loadN, V.slz, V.slz1, lnB, V.left, V.lenOf, slice3, sliceNil, Option.getD_none, sliceOp, cut, upon_each, buildOk, lookup, lookV, update, elemOf, Option.isSome_map, unOp, wanted, aop, tkB, neD, Env.get, Env.put, Env.keep, putD, dstOk, ev, constV, nilSlice, V.demote, V.toOwn, V.cells, ty, R1.res, binOp, isShift, binOpT, isC, intOp, strOp, shiftOp, byteV, index, indexAddr, slice, bounds, hiB, loB, withB, maxV, minV, evs, pickV, lenV, builtin, initEnv, convert, K.isU8, strOf, load, store, fieldOf, append, appT, fltOp, cpxV, realV, imagV, toInt, rangeOp, nextOp, room, fill, placeOf, splice, repl, chunks, Ty.val, Ty.agg, V.plain, H.row, H.ety, AObj.row, Nat.reduceAdd, ↓reduceIte, Nat.reduceEqDiff, Nat.reduceBEq, Nat.reduceBNe, Nat.reduceLT, Int.reduceToNat, Int.reduceEq, Int.reduceLT, Int.reduceLE, reduceCtorEq, Nat.reduceMul, Nat.reduceLeDiff, S_api_Unit.enc, S_graph_wrong.enc]
            exact hN26 true hq
        · simp only [RC, scopeQ, retQ, ↓reduceIte, Bool.false_eq_true]
          exact (hX _ hv).2
    · replace hq := (R.post_if hq).2 hc12
      replace hc12 := eq_false_of_ne_true hc12
      refine condK_t (congrArg (fun b => V.bool (!b)) (hc12)) ?_
      rw [wp_seq]
      rw [wp_region]
      simp only [RC, RL, RM, ↓evs_eq, loadN, V.slz, V.slz1, lnB, V.left, V.lenOf, slice3, sliceNil, Option.getD_none, sliceOp, cut, upon_each, buildOk, lookup, lookV, update, elemOf, Option.isSome_map, unOp, wanted, aop, tkB, neD, Env.get, Env.put, Env.keep, putD, dstOk, ev, constV, nilSlice, V.demote, V.toOwn, V.cells, ty, R1.res, binOp, isShift, binOpT, isC, intOp, strOp, shiftOp, byteV, index, indexAddr, slice, bounds, hiB, loB, withB, maxV, minV, evs, pickV, lenV, builtin, initEnv, convert, K.isU8, strOf, load, store, fieldOf, append, appT, fltOp, cpxV, realV, imagV, toInt, rangeOp, nextOp, room, fill, placeOf, splice, repl, chunks, Ty.val, Ty.agg, V.plain, H.row, H.ety, AObj.row, Nat.reduceAdd, ↓reduceIte, Nat.reduceEqDiff, Nat.reduceBEq, Nat.reduceBNe, Nat.reduceLT, Int.reduceToNat, Int.reduceEq, Int.reduceLT, Int.reduceLE, reduceCtorEq, Nat.reduceMul, Nat.reduceLeDiff, S_api_Unit.enc, S_graph_wrong.enc]
      rw [wp_ret]
      simp only [retQ, results, resultAll, resultOne, Nat.zero_add, scopeQ, RC, RL, RM, ↓evs_eq, loadN, V.slz, V.slz1, lnB, V.left, V.lenOf, slice3, sliceNil, Option.getD_none, sliceOp, cut, upon_each, buildOk, lookup, lookV, update, elemOf, Option.isSome_map, unOp, wanted, aop, tkB, neD, Env.get, Env.put, Env.keep, putD, dstOk, ev, constV, nilSlice, V.demote, V.toOwn, V.cells, ty, R1.res, binOp, isShift, binOpT, isC, intOp, strOp, shiftOp, byteV, index, indexAddr, slice, bounds, hiB, loB, withB, maxV, minV, evs, pickV, lenV, builtin, initEnv, convert, K.isU8, strOf, load, store, fieldOf, append, appT, fltOp, cpxV, realV, imagV, toInt, rangeOp, nextOp, room, fill, placeOf, splice, repl, chunks, Ty.val, Ty.agg, V.plain, H.row, H.ety, AObj.row, Nat.reduceAdd, ↓reduceIte, Nat.reduceEqDiff, Nat.reduceBEq, Nat.reduceBNe, Nat.reduceLT, Int.reduceToNat, Int.reduceEq, Int.reduceLT, Int.reduceLE, reduceCtorEq, Nat.reduceMul, Nat.reduceLeDiff, S_api_Unit.enc, S_graph_wrong.enc]
      refine ⟨_, (.refl _), ?_⟩
      exact hK _ hq
  · simp only [RC, scopeQ, retQ, ↓reduceIte, Bool.false_eq_true]
    exact (hX _ hv).2
end Go.Proofs.Ytmaabgkgjknhpaa.Pv
