/- Functions of the program, as plain Lean functions, and that the code comes to them: printed by gen.py. -/
import Derived.Test.YtmaabgkgjknhpaaG0
set_option linter.unusedVariables false
set_option linter.unusedSimpArgs false
set_option maxHeartbeats 4000000
set_option maxRecDepth 10000
namespace Go.Proofs.Ytmaabgkgjknhpaa.Pv
open Go Go.Proofs

def glossaryref10_In_j0 : R (Bool) :=
  R.ok false
def glossaryref10_In_l1 (x0 : List (List UInt8)) (x1 : List UInt8) : Nat → Int → R ((Unit) ⊕ (Bool))
  | 0, _ => R.stuck
  | k + 1, x9_18 => if x9_18 < (List.length x0 : Int) then (if 0 ≤ x9_18 ∧ x9_18 < (List.length x0 : Int) then (if (gt x0 x9_18) = x1 then (R.ok (.inr true)) else (glossaryref10_In_l1 x0 x1 k (IntKind.wrap .i64 (x9_18 + 1)))) else R.stuck) else (R.ok (.inl ()))
def glossaryref10_In (x0 : List (List UInt8)) (x1 : List UInt8) : R (Bool) :=
  (glossaryref10_In_l1 x0 x1 Many 0).bind fun | (.inl _) => glossaryref10_In_j0 | (.inr rp36) => R.ok rp36
theorem glossaryref10_In_call {h : H} {x0 : List (List UInt8)} {x1 : List UInt8} {Q : Out → H → Prop} {KK : (Bool) → Prop} {X : V → Prop} (hq : (glossaryref10_In x0 x1).post KK X) (hK : ∀ r, KK r → Q (.ret (.bool r)) h) (hX : ∀ v, X v → V.Cl 0 v ∧ Q (.panic v) h) : CA qprim 17 [.sl 1 (List.map V.str x0), .str x1] h Q := by
  refine acalln hp Try.func17 rfl (by kernel_rfl) (n := 17) rfl (rs := [.tmp 4]) rfl [0, 1, 4, 6, 7, 8, 9, 10, 15] [] false (by simp) ?_
  unfold glossaryref10_In at hq
  simp only [initEnv, List.map_cons, List.map_nil, List.getD_cons_zero, List.getD_cons_succ, List.getD_nil, V.demote]
  rw [wp_seq]
  rw [wp_region]
  simp only [RC, RL, RM, ↓evs_eq, loadN, V.slz, V.slz1, lnB, V.left, V.lenOf, slice3, sliceNil, Option.getD_none, sliceOp, cut, upon_each, buildOk, lookup, lookV, update, elemOf, Option.isSome_map, unOp, wanted, aop, tkB, neD, Env.get, Env.put, Env.keep, putD, dstOk, ev, constV, nilSlice, V.demote, V.toOwn, V.cells, ty, R1.res, binOp, isShift, binOpT, isC, intOp, strOp, shiftOp, byteV, index, indexAddr, slice, bounds, hiB, loB, withB, maxV, minV, evs, pickV, lenV, builtin, initEnv, convert, K.isU8, strOf, load, store, fieldOf, append, appT, fltOp, cpxV, realV, imagV, toInt, rangeOp, nextOp, room, fill, placeOf, splice, repl, chunks, Ty.val, Ty.agg, V.plain, H.row, H.ety, AObj.row, Nat.reduceAdd, ↓reduceIte, Nat.reduceEqDiff, Nat.reduceBEq, Nat.reduceBNe, Nat.reduceLT, Int.reduceToNat, Int.reduceEq, Int.reduceLT, Int.reduceLE, reduceCtorEq, Nat.reduceMul, Nat.reduceLeDiff, S_api_Unit.enc, S_graph_wrong.enc]
  refine seq_gen (acall_mono hp) (σ := V × V × V × V × V × V × V) (fun s => [(0, .sl 1 (List.map V.str x0)), (1, .str x1), (4, s.1), (6, s.2.1), (7, s.2.2.1), (8, s.2.2.2.1), (9, s.2.2.2.2.1), (10, s.2.2.2.2.2.1), (15, s.2.2.2.2.2.2)]) (fun s => h) (fun s => (glossaryref10_In_j0).post KK X) (fun s hq => ?_) (fun N hN17 => ?_)
  · obtain ⟨y4_16, y6_16, y7_16, y8_16, y9_16, y10_16, y15_16⟩ := s
    try dsimp only at hq ⊢
    unfold glossaryref10_In_j0 at hq
    rw [wp_seq]
    rw [wp_region]
    simp only [RC, RL, RM, ↓evs_eq, loadN, V.slz, V.slz1, lnB, V.left, V.lenOf, slice3, sliceNil, Option.getD_none, sliceOp, cut, upon_each, buildOk, lookup, lookV, update, elemOf, Option.isSome_map, unOp, wanted, aop, tkB, neD, Env.get, Env.put, Env.keep, putD, dstOk, ev, constV, nilSlice, V.demote, V.toOwn, V.cells, ty, R1.res, binOp, isShift, binOpT, isC, intOp, strOp, shiftOp, byteV, index, indexAddr, slice, bounds, hiB, loB, withB, maxV, minV, evs, pickV, lenV, builtin, initEnv, convert, K.isU8, strOf, load, store, fieldOf, append, appT, fltOp, cpxV, realV, imagV, toInt, rangeOp, nextOp, room, fill, placeOf, splice, repl, chunks, Ty.val, Ty.agg, V.plain, H.row, H.ety, AObj.row, Nat.reduceAdd, ↓reduceIte, Nat.reduceEqDiff, Nat.reduceBEq, Nat.reduceBNe, Nat.reduceLT, Int.reduceToNat, Int.reduceEq, Int.reduceLT, Int.reduceLE, reduceCtorEq, Nat.reduceMul, Nat.reduceLeDiff, S_api_Unit.enc, S_graph_wrong.enc]
    rw [wp_ret]
    simp only [retQ, results, resultAll, resultOne, Nat.zero_add, scopeQ, RC, RL, RM, ↓evs_eq, loadN, V.slz, V.slz1, lnB, V.left, V.lenOf, slice3, sliceNil, Option.getD_none, sliceOp, cut, upon_each, buildOk, lookup, lookV, update, elemOf, Option.isSome_map, unOp, wanted, aop, tkB, neD, Env.get, Env.put, Env.keep, putD, dstOk, ev, constV, nilSlice, V.demote, V.toOwn, V.cells, ty, R1.res, binOp, isShift, binOpT, isC, intOp, strOp, shiftOp, byteV, index, indexAddr, slice, bounds, hiB, loB, withB, maxV, minV, evs, pickV, lenV, builtin, initEnv, convert, K.isU8, strOf, load, store, fieldOf, append, appT, fltOp, cpxV, realV, imagV, toInt, rangeOp, nextOp, room, fill, placeOf, splice, repl, chunks, Ty.val, Ty.agg, V.plain, H.row, H.ety, AObj.row, Nat.reduceAdd, ↓reduceIte, Nat.reduceEqDiff, Nat.reduceBEq, Nat.reduceBNe, Nat.reduceLT, Int.reduceToNat, Int.reduceEq, Int.reduceLT, Int.reduceLE, reduceCtorEq, Nat.reduceMul, Nat.reduceLeDiff, S_api_Unit.enc, S_graph_wrong.enc]
    refine ⟨_, (.refl _), ?_⟩
    exact hK _ hq
  · rw [wp_seq]
    rw [wp_region]
    simp only [RC, RL, RM, ↓evs_eq, loadN, V.slz, V.slz1, lnB, V.left, V.lenOf, slice3, sliceNil, Option.getD_none, sliceOp, cut, upon_each, buildOk, lookup, lookV, update, elemOf, Option.isSome_map, unOp, wanted, aop, tkB, neD, Env.get, Env.put, Env.keep, putD, dstOk, ev, constV, nilSlice, V.demote, V.toOwn, V.cells, ty, R1.res, binOp, isShift, binOpT, isC, intOp, strOp, shiftOp, byteV, index, indexAddr, slice, bounds, hiB, loB, withB, maxV, minV, evs, pickV, lenV, builtin, initEnv, convert, K.isU8, strOf, load, store, fieldOf, append, appT, fltOp, cpxV, realV, imagV, toInt, rangeOp, nextOp, room, fill, placeOf, splice, repl, chunks, Ty.val, Ty.agg, V.plain, H.row, H.ety, AObj.row, Nat.reduceAdd, ↓reduceIte, Nat.reduceEqDiff, Nat.reduceBEq, Nat.reduceBNe, Nat.reduceLT, Int.reduceToNat, Int.reduceEq, Int.reduceLT, Int.reduceLE, reduceCtorEq, Nat.reduceMul, Nat.reduceLeDiff, S_api_Unit.enc, S_graph_wrong.enc]
    rw [wp_block]
    refine loop_in ?_
    refine Wk.le (EnvLe.cons (.refl _) (EnvLe.cons (.refl _) (EnvLe.cons (.top _) (EnvLe.cons (.refl _) (EnvLe.cons (.refl _) (EnvLe.cons (.refl _) (EnvLe.cons (.refl _) (EnvLe.cons (.refl _) (EnvLe.cons (.refl _) EnvLe.nil))))))))) ?_
    obtain ⟨K25, hK26, hq⟩ := R.post_cut hq
    refine loop_gen (acall_mono hp) (σ := V × V × Int × V × V) (fun s => [(0, .sl 1 (List.map V.str x0)), (1, .str x1), (4, s.1), (6, s.2.1), (7, .sl 1 (List.map V.str x0)), (8, .int .i64 (List.length x0 : Int)), (9, .int .i64 s.2.2.1), (10, s.2.2.2.1), (15, s.2.2.2.2)]) (fun s => h) (fun k s => (glossaryref10_In_l1 x0 x1 k s.2.2.1).post K25 X) (fun s hs => hs) (fun k34 s hq N hN27 => ?_) _ (_, _, 0, _, _) hq
    obtain ⟨y4_18, y6_18, x9_18, y10_18, y15_18⟩ := s
    try dsimp only at hq ⊢
    rw [glossaryref10_In_l1] at hq
    rw [wp_seq]
    rw [wp_region]
    simp only [RC, RL, RM, ↓evs_eq, loadN, V.slz, V.slz1, lnB, V.left, V.lenOf, slice3, sliceNil, Option.getD_none, sliceOp, cut, upon_each, buildOk, lookup, lookV, update, elemOf, Option.isSome_map, unOp, wanted, aop, tkB, neD, Env.get, Env.put, Env.keep, putD, dstOk, ev, constV, nilSlice, V.demote, V.toOwn, V.cells, ty, R1.res, binOp, isShift, binOpT, isC, intOp, strOp, shiftOp, byteV, index, indexAddr, slice, bounds, hiB, loB, withB, maxV, minV, evs, pickV, lenV, builtin, initEnv, convert, K.isU8, strOf, load, store, fieldOf, append, appT, fltOp, cpxV, realV, imagV, toInt, rangeOp, nextOp, room, fill, placeOf, splice, repl, chunks, Ty.val, Ty.agg, V.plain, H.row, H.ety, AObj.row, Nat.reduceAdd, ↓reduceIte, Nat.reduceEqDiff, Nat.reduceBEq, Nat.reduceBNe, Nat.reduceLT, Int.reduceToNat, Int.reduceEq, Int.reduceLT, Int.reduceLE, reduceCtorEq, Nat.reduceMul, Nat.reduceLeDiff, S_api_Unit.enc, S_graph_wrong.enc]
    rw [wp_seq]
    rw [wp_cond]
    simp only [RC, RL, RM, ↓evs_eq, loadN, V.slz, V.slz1, lnB, V.left, V.lenOf, slice3, sliceNil, Option.getD_none, sliceOp, cut, upon_each, buildOk, lookup, lookV, update, elemOf, Option.isSome_map, unOp, wanted, aop, tkB, neD, Env.get, Env.put, Env.keep, putD, dstOk, ev, constV, nilSlice, V.demote, V.toOwn, V.cells, ty, R1.res, binOp, isShift, binOpT, isC, intOp, strOp, shiftOp, byteV, index, indexAddr, slice, bounds, hiB, loB, withB, maxV, minV, evs, pickV, lenV, builtin, initEnv, convert, K.isU8, strOf, load, store, fieldOf, append, appT, fltOp, cpxV, realV, imagV, toInt, rangeOp, nextOp, room, fill, placeOf, splice, repl, chunks, Ty.val, Ty.agg, V.plain, H.row, H.ety, AObj.row, Nat.reduceAdd, ↓reduceIte, Nat.reduceEqDiff, Nat.reduceBEq, Nat.reduceBNe, Nat.reduceLT, Int.reduceToNat, Int.reduceEq, Int.reduceLT, Int.reduceLE, reduceCtorEq, Nat.reduceMul, Nat.reduceLeDiff, S_api_Unit.enc, S_graph_wrong.enc]
    by_cases hc28 : x9_18 < (List.length x0 : Int)
    · replace hq := (R.post_if hq).1 hc28
      refine condK_t (congrArg V.bool (decide_eq_true hc28)) ?_
      try simp only [wp_skip, RC]
      refine Wk.same ?_
      try simp only [RC]
      rw [wp_seq]
      rw [wp_block]
      rw [wp_seq]
      rw [wp_region]
      obtain ⟨g31, hq⟩ := R.guard hq
      have e32 := map_gt (f := V.str) (l := x0) (i := x9_18) g31
      simp only [e32, RC, RL, RM, ↓evs_eq, loadN, V.slz, V.slz1, lnB, V.left, V.lenOf, slice3, sliceNil, Option.getD_none, sliceOp, cut, upon_each, buildOk, lookup, lookV, update, elemOf, Option.isSome_map, unOp, wanted, aop, tkB, neD, Env.get, Env.put, Env.keep, putD, dstOk, ev, constV, nilSlice, V.demote, V.toOwn, V.cells, ty, R1.res, binOp, isShift, binOpT, isC, intOp, strOp, shiftOp, byteV, index, indexAddr, slice, bounds, hiB, loB, withB, maxV, minV, evs, pickV, lenV, builtin, initEnv, convert, K.isU8, strOf, load, store, fieldOf, append, appT, fltOp, cpxV, realV, imagV, toInt, rangeOp, nextOp, room, fill, placeOf, splice, repl, chunks, Ty.val, Ty.agg, V.plain, H.row, H.ety, AObj.row, Nat.reduceAdd, ↓reduceIte, Nat.reduceEqDiff, Nat.reduceBEq, Nat.reduceBNe, Nat.reduceLT, Int.reduceToNat, Int.reduceEq, Int.reduceLT, Int.reduceLE, reduceCtorEq, Nat.reduceMul, Nat.reduceLeDiff, S_api_Unit.enc, S_graph_wrong.enc]
      repeat (with_reducible refine And.intro (by first | omega | assumption) ?_)
      rw [wp_seq]
      rw [wp_region]
      simp only [RC, RL, RM, ↓evs_eq, loadN, V.slz, V.slz1, lnB, V.left, V.lenOf, slice3, sliceNil, Option.getD_none, sliceOp, cut, upon_each, buildOk, lookup, lookV, update, elemOf, Option.isSome_map, unOp, wanted, aop, tkB, neD, Env.get, Env.put, Env.keep, putD, dstOk, ev, constV, nilSlice, V.demote, V.toOwn, V.cells, ty, R1.res, binOp, isShift, binOpT, isC, intOp, strOp, shiftOp, byteV, index, indexAddr, slice, bounds, hiB, loB, withB, maxV, minV, evs, pickV, lenV, builtin, initEnv, convert, K.isU8, strOf, load, store, fieldOf, append, appT, fltOp, cpxV, realV, imagV, toInt, rangeOp, nextOp, room, fill, placeOf, splice, repl, chunks, Ty.val, Ty.agg, V.plain, H.row, H.ety, AObj.row, Nat.reduceAdd, ↓reduceIte, Nat.reduceEqDiff, Nat.reduceBEq, Nat.reduceBNe, Nat.reduceLT, Int.reduceToNat, Int.reduceEq, Int.reduceLT, Int.reduceLE, reduceCtorEq, Nat.reduceMul, Nat.reduceLeDiff, S_api_Unit.enc, S_graph_wrong.enc]
      rw [wp_cond]
      simp only [RC, RL, RM, ↓evs_eq, loadN, V.slz, V.slz1, lnB, V.left, V.lenOf, slice3, sliceNil, Option.getD_none, sliceOp, cut, upon_each, buildOk, lookup, lookV, update, elemOf, Option.isSome_map, unOp, wanted, aop, tkB, neD, Env.get, Env.put, Env.keep, putD, dstOk, ev, constV, nilSlice, V.demote, V.toOwn, V.cells, ty, R1.res, binOp, isShift, binOpT, isC, intOp, strOp, shiftOp, byteV, index, indexAddr, slice, bounds, hiB, loB, withB, maxV, minV, evs, pickV, lenV, builtin, initEnv, convert, K.isU8, strOf, load, store, fieldOf, append, appT, fltOp, cpxV, realV, imagV, toInt, rangeOp, nextOp, room, fill, placeOf, splice, repl, chunks, Ty.val, Ty.agg, V.plain, H.row, H.ety, AObj.row, Nat.reduceAdd, ↓reduceIte, Nat.reduceEqDiff, Nat.reduceBEq, Nat.reduceBNe, Nat.reduceLT, Int.reduceToNat, Int.reduceEq, Int.reduceLT, Int.reduceLE, reduceCtorEq, Nat.reduceMul, Nat.reduceLeDiff, S_api_Unit.enc, S_graph_wrong.enc]
      by_cases hc33 : (gt x0 x9_18) = x1
      · replace hq := (R.post_if hq).1 hc33
        refine condK_t (congrArg V.bool (decide_eq_true hc33)) ?_
        rw [wp_seq]
        rw [wp_region]
        simp only [RC, RL, RM, ↓evs_eq, loadN, V.slz, V.slz1, lnB, V.left, V.lenOf, slice3, sliceNil, Option.getD_none, sliceOp, cut, upon_each, buildOk, lookup, lookV, update, elemOf, Option.isSome_map, unOp, wanted, aop, tkB, neD, Env.get, Env.put, Env.keep, putD, dstOk, ev, constV, nilSlice, V.demote, V.toOwn, V.cells, ty, R1.res, binOp, isShift, binOpT, isC, intOp, strOp, shiftOp, byteV, index, indexAddr, slice, bounds, hiB, loB, withB, maxV, minV, evs, pickV, lenV, builtin, initEnv, convert, K.isU8, strOf, load, store, fieldOf, append, appT, fltOp, cpxV, realV, imagV, toInt, rangeOp, nextOp, room, fill, placeOf, splice, repl, chunks, Ty.val, Ty.agg, V.plain, H.row, H.ety, AObj.row, Nat.reduceAdd, ↓reduceIte, Nat.reduceEqDiff, Nat.reduceBEq, Nat.reduceBNe, Nat.reduceLT, Int.reduceToNat, Int.reduceEq, Int.reduceLT, Int.reduceLE, reduceCtorEq, Nat.reduceMul, Nat.reduceLeDiff, S_api_Unit.enc, S_graph_wrong.enc]
        rw [wp_ret]
        simp only [retQ, results, resultAll, resultOne, Nat.zero_add, scopeQ, RC, RL, RM, ↓evs_eq, loadN, V.slz, V.slz1, lnB, V.left, V.lenOf, slice3, sliceNil, Option.getD_none, sliceOp, cut, upon_each, buildOk, lookup, lookV, update, elemOf, Option.isSome_map, unOp, wanted, aop, tkB, neD, Env.get, Env.put, Env.keep, putD, dstOk, ev, constV, nilSlice, V.demote, V.toOwn, V.cells, ty, R1.res, binOp, isShift, binOpT, isC, intOp, strOp, shiftOp, byteV, index, indexAddr, slice, bounds, hiB, loB, withB, maxV, minV, evs, pickV, lenV, builtin, initEnv, convert, K.isU8, strOf, load, store, fieldOf, append, appT, fltOp, cpxV, realV, imagV, toInt, rangeOp, nextOp, room, fill, placeOf, splice, repl, chunks, Ty.val, Ty.agg, V.plain, H.row, H.ety, AObj.row, Nat.reduceAdd, ↓reduceIte, Nat.reduceEqDiff, Nat.reduceBEq, Nat.reduceBNe, Nat.reduceLT, Int.reduceToNat, Int.reduceEq, Int.reduceLT, Int.reduceLE, reduceCtorEq, Nat.reduceMul, Nat.reduceLeDiff, S_api_Unit.enc, S_graph_wrong.enc]
        refine ⟨_, (.refl _), ?_⟩
        replace hq := hK26 _ hq
        exact hK _ hq
      · replace hq := (R.post_if hq).2 hc33
        refine condK_f (congrArg V.bool (decide_eq_false hc33)) ?_
        try simp only [wp_skip, RC]
        refine Wk.same ?_
        try simp only [RC]
        refine Wk.same ?_
        try simp only [RC]
        rw [wp_region]
        simp only [RC, RL, RM, ↓evs_eq, loadN, V.slz, V.slz1, lnB, V.left, V.lenOf, slice3, sliceNil, Option.getD_none, sliceOp, cut, upon_each, buildOk, lookup, lookV, update, elemOf, Option.isSome_map, unOp, wanted, aop, tkB, neD, Env.get, Env.put, Env.keep, putD, dstOk, ev, constV, nilSlice, V.demote, V.toOwn, V.cells, ty, R1.res, binOp, isShift, binOpT, isC, intOp, strOp, shiftOp, byteV, index, indexAddr, slice, bounds, hiB, loB, withB, maxV, minV, evs, pickV, lenV, builtin, initEnv, convert, K.isU8, strOf, load, store, fieldOf, append, appT, fltOp, cpxV, realV, imagV, toInt, rangeOp, nextOp, room, fill, placeOf, splice, repl, chunks, Ty.val, Ty.agg, V.plain, H.row, H.ety, AObj.row, Nat.reduceAdd, ↓reduceIte, Nat.reduceEqDiff, Nat.reduceBEq, Nat.reduceBNe, Nat.reduceLT, Int.reduceToNat, Int.reduceEq, Int.reduceLT, Int.reduceLE, reduceCtorEq, Nat.reduceMul, Nat.reduceLeDiff, S_api_Unit.enc, S_graph_wrong.enc]
        refine Wk.le (EnvLe.cons (.refl _) (EnvLe.cons (.refl _) (EnvLe.cons (.refl _) (EnvLe.cons (.top _) (EnvLe.cons (.refl _) (EnvLe.cons (.refl _) (EnvLe.cons (.refl _) (EnvLe.cons (.top _) (EnvLe.cons (.top _) EnvLe.nil))))))))) ?_
        exact hN27 (_, _, (IntKind.wrap .i64 (x9_18 + 1)), _, _) hq
    · replace hq := (R.post_if hq).2 hc28
      refine condK_f (congrArg V.bool (decide_eq_false hc28)) ?_
      rw [wp_exit]
      try simp only [↓reduceIte, Nat.reduceEqDiff, reduceCtorEq, if_false, if_true, eq_self, Nat.succ_ne_self, RC]
      replace hq := hK26 _ hq
      try dsimp only at hq
      refine Wk.le (EnvLe.cons (.refl _) (EnvLe.cons (.refl _) (EnvLe.cons (.refl _) (EnvLe.cons (.refl _) (EnvLe.cons (.top _) (EnvLe.cons (.top _) (EnvLe.cons (.top _) (EnvLe.cons (.top _) (EnvLe.cons (.refl _) EnvLe.nil))))))))) ?_
      try simp only [RC]
      exact hN17 (_, _, _, _, _, _, _) hq

def glossaryref10_Find_j0 : R (Int) :=
  R.ok (-1)
def glossaryref10_Find_l1 (x0 : List S_api_Unit) (x1 : List UInt8) : Nat → Int → R ((Unit) ⊕ (Int))
  | 0, _ => R.stuck
  | k + 1, x9_38 => if x9_38 < (List.length x0 : Int) then (if 0 ≤ x9_38 ∧ x9_38 < (List.length x0 : Int) then (if ((gt x0 x9_38).Path) = x1 then (R.ok (.inr x9_38)) else (glossaryref10_Find_l1 x0 x1 k (IntKind.wrap .i64 (x9_38 + 1)))) else R.stuck) else (R.ok (.inl ()))
def glossaryref10_Find (x0 : List S_api_Unit) (x1 : List UInt8) : R (Int) :=
  (glossaryref10_Find_l1 x0 x1 Many 0).bind fun | (.inl _) => glossaryref10_Find_j0 | (.inr rp56) => R.ok rp56
theorem glossaryref10_Find_call {h : H} {x0 : List S_api_Unit} {x1 : List UInt8} {Q : Out → H → Prop} {KK : (Int) → Prop} {X : V → Prop} (hq : (glossaryref10_Find x0 x1).post KK X) (hK : ∀ r, KK r → Q (.ret (.int .i64 r)) h) (hX : ∀ v, X v → V.Cl 0 v ∧ Q (.panic v) h) : CA qprim 16 [.sl 3 (List.map S_api_Unit.enc x0), .str x1] h Q := by
  refine acalln hp Try.func16 rfl (by kernel_rfl) (n := 20) rfl (rs := [.tmp 4]) rfl [0, 1, 4, 5, 6, 7, 8, 9, 10, 17] [] true (by simp) ?_
  unfold glossaryref10_Find at hq
  simp only [initEnv, List.map_cons, List.map_nil, List.getD_cons_zero, List.getD_cons_succ, List.getD_nil, V.demote]
  rw [wp_seq]
  rw [wp_region]
  simp only [RC, RL, RM, ↓evs_eq, loadN, V.slz, V.slz1, lnB, V.left, V.lenOf, slice3, sliceNil, Option.getD_none, sliceOp, cut, upon_each, buildOk, lookup, lookV, update, elemOf, Option.isSome_map, unOp, wanted, aop, tkB, neD, Env.get, Env.put, Env.keep, putD, dstOk, ev, constV, nilSlice, V.demote, V.toOwn, V.cells, ty, R1.res, binOp, isShift, binOpT, isC, intOp, strOp, shiftOp, byteV, index, indexAddr, slice, bounds, hiB, loB, withB, maxV, minV, evs, pickV, lenV, builtin, initEnv, convert, K.isU8, strOf, load, store, fieldOf, append, appT, fltOp, cpxV, realV, imagV, toInt, rangeOp, nextOp, room, fill, placeOf, splice, repl, chunks, Ty.val, Ty.agg, V.plain, H.row, H.ety, AObj.row, Nat.reduceAdd, ↓reduceIte, Nat.reduceEqDiff, Nat.reduceBEq, Nat.reduceBNe, Nat.reduceLT, Int.reduceToNat, Int.reduceEq, Int.reduceLT, Int.reduceLE, reduceCtorEq, Nat.reduceMul, Nat.reduceLeDiff, S_api_Unit.enc, S_graph_wrong.enc]
  refine seq_gen (acall_mono hp) (σ := V × V × V × V × V × V × V × V × V) (fun s => [(0, s.1), (1, .str x1), (4, s.2.1), (5, s.2.2.1), (6, s.2.2.2.1), (7, s.2.2.2.2.1), (8, s.2.2.2.2.2.1), (9, s.2.2.2.2.2.2.1), (10, s.2.2.2.2.2.2.2.1), (17, s.2.2.2.2.2.2.2.2)]) (fun s => h) (fun s => (glossaryref10_Find_j0).post KK X) (fun s hq => ?_) (fun N hN30 => ?_)
  · obtain ⟨y0_29, y4_29, y5_29, y6_29, y7_29, y8_29, y9_29, y10_29, y17_29⟩ := s
    try dsimp only at hq ⊢
    unfold glossaryref10_Find_j0 at hq
    rw [wp_seq]
    rw [wp_region]
    simp only [RC, RL, RM, ↓evs_eq, loadN, V.slz, V.slz1, lnB, V.left, V.lenOf, slice3, sliceNil, Option.getD_none, sliceOp, cut, upon_each, buildOk, lookup, lookV, update, elemOf, Option.isSome_map, unOp, wanted, aop, tkB, neD, Env.get, Env.put, Env.keep, putD, dstOk, ev, constV, nilSlice, V.demote, V.toOwn, V.cells, ty, R1.res, binOp, isShift, binOpT, isC, intOp, strOp, shiftOp, byteV, index, indexAddr, slice, bounds, hiB, loB, withB, maxV, minV, evs, pickV, lenV, builtin, initEnv, convert, K.isU8, strOf, load, store, fieldOf, append, appT, fltOp, cpxV, realV, imagV, toInt, rangeOp, nextOp, room, fill, placeOf, splice, repl, chunks, Ty.val, Ty.agg, V.plain, H.row, H.ety, AObj.row, Nat.reduceAdd, ↓reduceIte, Nat.reduceEqDiff, Nat.reduceBEq, Nat.reduceBNe, Nat.reduceLT, Int.reduceToNat, Int.reduceEq, Int.reduceLT, Int.reduceLE, reduceCtorEq, Nat.reduceMul, Nat.reduceLeDiff, S_api_Unit.enc, S_graph_wrong.enc]
    rw [wp_ret]
    simp only [retQ, results, resultAll, resultOne, Nat.zero_add, scopeQ, RC, RL, RM, ↓evs_eq, loadN, V.slz, V.slz1, lnB, V.left, V.lenOf, slice3, sliceNil, Option.getD_none, sliceOp, cut, upon_each, buildOk, lookup, lookV, update, elemOf, Option.isSome_map, unOp, wanted, aop, tkB, neD, Env.get, Env.put, Env.keep, putD, dstOk, ev, constV, nilSlice, V.demote, V.toOwn, V.cells, ty, R1.res, binOp, isShift, binOpT, isC, intOp, strOp, shiftOp, byteV, index, indexAddr, slice, bounds, hiB, loB, withB, maxV, minV, evs, pickV, lenV, builtin, initEnv, convert, K.isU8, strOf, load, store, fieldOf, append, appT, fltOp, cpxV, realV, imagV, toInt, rangeOp, nextOp, room, fill, placeOf, splice, repl, chunks, Ty.val, Ty.agg, V.plain, H.row, H.ety, AObj.row, Nat.reduceAdd, ↓reduceIte, Nat.reduceEqDiff, Nat.reduceBEq, Nat.reduceBNe, Nat.reduceLT, Int.reduceToNat, Int.reduceEq, Int.reduceLT, Int.reduceLE, reduceCtorEq, Nat.reduceMul, Nat.reduceLeDiff, S_api_Unit.enc, S_graph_wrong.enc]
    refine ⟨_, (.refl _), ?_⟩
    refine leave_ok0 rfl (.int _ _) ?_
    exact hK _ hq
  · rw [wp_seq]
    rw [wp_region]
    simp only [RC, RL, RM, ↓evs_eq, loadN, V.slz, V.slz1, lnB, V.left, V.lenOf, slice3, sliceNil, Option.getD_none, sliceOp, cut, upon_each, buildOk, lookup, lookV, update, elemOf, Option.isSome_map, unOp, wanted, aop, tkB, neD, Env.get, Env.put, Env.keep, putD, dstOk, ev, constV, nilSlice, V.demote, V.toOwn, V.cells, ty, R1.res, binOp, isShift, binOpT, isC, intOp, strOp, shiftOp, byteV, index, indexAddr, slice, bounds, hiB, loB, withB, maxV, minV, evs, pickV, lenV, builtin, initEnv, convert, K.isU8, strOf, load, store, fieldOf, append, appT, fltOp, cpxV, realV, imagV, toInt, rangeOp, nextOp, room, fill, placeOf, splice, repl, chunks, Ty.val, Ty.agg, V.plain, H.row, H.ety, AObj.row, Nat.reduceAdd, ↓reduceIte, Nat.reduceEqDiff, Nat.reduceBEq, Nat.reduceBNe, Nat.reduceLT, Int.reduceToNat, Int.reduceEq, Int.reduceLT, Int.reduceLE, reduceCtorEq, Nat.reduceMul, Nat.reduceLeDiff, S_api_Unit.enc, S_graph_wrong.enc]
    rw [wp_block]
    refine loop_in ?_
    refine Wk.le (EnvLe.cons (.top _) (EnvLe.cons (.refl _) (EnvLe.cons (.top _) (EnvLe.cons (.refl _) (EnvLe.cons (.refl _) (EnvLe.cons (.refl _) (EnvLe.cons (.refl _) (EnvLe.cons (.refl _) (EnvLe.cons (.refl _) (EnvLe.cons (.refl _) EnvLe.nil)))))))))) ?_
    obtain ⟨K45, hK46, hq⟩ := R.post_cut hq
    refine loop_gen (acall_mono hp) (σ := V × V × V × V × Int × V × V) (fun s => [(0, s.1), (1, .str x1), (4, s.2.1), (5, s.2.2.1), (6, s.2.2.2.1), (7, .sl 3 (List.map S_api_Unit.enc x0)), (8, .int .i64 (List.length x0 : Int)), (9, .int .i64 s.2.2.2.2.1), (10, s.2.2.2.2.2.1), (17, s.2.2.2.2.2.2)]) (fun s => h) (fun k s => (glossaryref10_Find_l1 x0 x1 k s.2.2.2.2.1).post K45 X) (fun s hs => hs) (fun k54 s hq N hN47 => ?_) _ (_, _, _, _, 0, _, _) hq
    obtain ⟨y0_38, y4_38, y5_38, y6_38, x9_38, y10_38, y17_38⟩ := s
    try dsimp only at hq ⊢
    rw [glossaryref10_Find_l1] at hq
    rw [wp_seq]
    rw [wp_region]
    simp only [RC, RL, RM, ↓evs_eq, loadN, V.slz, V.slz1, lnB, V.left, V.lenOf, slice3, sliceNil, Option.getD_none, sliceOp, cut, upon_each, buildOk, lookup, lookV, update, elemOf, Option.isSome_map, unOp, wanted, aop, tkB, neD, Env.get, Env.put, Env.keep, putD, dstOk, ev, constV, nilSlice, V.demote, V.toOwn, V.cells, ty, R1.res, binOp, isShift, binOpT, isC, intOp, strOp, shiftOp, byteV, index, indexAddr, slice, bounds, hiB, loB, withB, maxV, minV, evs, pickV, lenV, builtin, initEnv, convert, K.isU8, strOf, load, store, fieldOf, append, appT, fltOp, cpxV, realV, imagV, toInt, rangeOp, nextOp, room, fill, placeOf, splice, repl, chunks, Ty.val, Ty.agg, V.plain, H.row, H.ety, AObj.row, Nat.reduceAdd, ↓reduceIte, Nat.reduceEqDiff, Nat.reduceBEq, Nat.reduceBNe, Nat.reduceLT, Int.reduceToNat, Int.reduceEq, Int.reduceLT, Int.reduceLE, reduceCtorEq, Nat.reduceMul, Nat.reduceLeDiff, S_api_Unit.enc, S_graph_wrong.enc]
    rw [wp_seq]
    rw [wp_cond]
    simp only [RC, RL, RM, ↓evs_eq, loadN, V.slz, V.slz1, lnB, V.left, V.lenOf, slice3, sliceNil, Option.getD_none, sliceOp, cut, upon_each, buildOk, lookup, lookV, update, elemOf, Option.isSome_map, unOp, wanted, aop, tkB, neD, Env.get, Env.put, Env.keep, putD, dstOk, ev, constV, nilSlice, V.demote, V.toOwn, V.cells, ty, R1.res, binOp, isShift, binOpT, isC, intOp, strOp, shiftOp, byteV, index, indexAddr, slice, bounds, hiB, loB, withB, maxV, minV, evs, pickV, lenV, builtin, initEnv, convert, K.isU8, strOf, load, store, fieldOf, append, appT, fltOp, cpxV, realV, imagV, toInt, rangeOp, nextOp, room, fill, placeOf, splice, repl, chunks, Ty.val, Ty.agg, V.plain, H.row, H.ety, AObj.row, Nat.reduceAdd, ↓reduceIte, Nat.reduceEqDiff, Nat.reduceBEq, Nat.reduceBNe, Nat.reduceLT, Int.reduceToNat, Int.reduceEq, Int.reduceLT, Int.reduceLE, reduceCtorEq, Nat.reduceMul, Nat.reduceLeDiff, S_api_Unit.enc, S_graph_wrong.enc]
    by_cases hc48 : x9_38 < (List.length x0 : Int)
    · replace hq := (R.post_if hq).1 hc48
      refine condK_t (congrArg V.bool (decide_eq_true hc48)) ?_
      try simp only [wp_skip, RC]
      refine Wk.same ?_
      try simp only [RC]
      rw [wp_seq]
      rw [wp_block]
      rw [wp_seq]
      rw [wp_region]
      obtain ⟨g51, hq⟩ := R.guard hq
      have e52 := map_gt (f := S_api_Unit.enc) (l := x0) (i := x9_38) g51
      simp only [e52, RC, RL, RM, ↓evs_eq, loadN, V.slz, V.slz1, lnB, V.left, V.lenOf, slice3, sliceNil, Option.getD_none, sliceOp, cut, upon_each, buildOk, lookup, lookV, update, elemOf, Option.isSome_map, unOp, wanted, aop, tkB, neD, Env.get, Env.put, Env.keep, putD, dstOk, ev, constV, nilSlice, V.demote, V.toOwn, V.cells, ty, R1.res, binOp, isShift, binOpT, isC, intOp, strOp, shiftOp, byteV, index, indexAddr, slice, bounds, hiB, loB, withB, maxV, minV, evs, pickV, lenV, builtin, initEnv, convert, K.isU8, strOf, load, store, fieldOf, append, appT, fltOp, cpxV, realV, imagV, toInt, rangeOp, nextOp, room, fill, placeOf, splice, repl, chunks, Ty.val, Ty.agg, V.plain, H.row, H.ety, AObj.row, Nat.reduceAdd, ↓reduceIte, Nat.reduceEqDiff, Nat.reduceBEq, Nat.reduceBNe, Nat.reduceLT, Int.reduceToNat, Int.reduceEq, Int.reduceLT, Int.reduceLE, reduceCtorEq, Nat.reduceMul, Nat.reduceLeDiff, S_api_Unit.enc, S_graph_wrong.enc]
      repeat (with_reducible refine And.intro (by first | omega | assumption) ?_)
      rw [wp_seq]
      rw [wp_region]
      simp only [RC, RL, RM, ↓evs_eq, loadN, V.slz, V.slz1, lnB, V.left, V.lenOf, slice3, sliceNil, Option.getD_none, sliceOp, cut, upon_each, buildOk, lookup, lookV, update, elemOf, Option.isSome_map, unOp, wanted, aop, tkB, neD, Env.get, Env.put, Env.keep, putD, dstOk, ev, constV, nilSlice, V.demote, V.toOwn, V.cells, ty, R1.res, binOp, isShift, binOpT, isC, intOp, strOp, shiftOp, byteV, index, indexAddr, slice, bounds, hiB, loB, withB, maxV, minV, evs, pickV, lenV, builtin, initEnv, convert, K.isU8, strOf, load, store, fieldOf, append, appT, fltOp, cpxV, realV, imagV, toInt, rangeOp, nextOp, room, fill, placeOf, splice, repl, chunks, Ty.val, Ty.agg, V.plain, H.row, H.ety, AObj.row, Nat.reduceAdd, ↓reduceIte, Nat.reduceEqDiff, Nat.reduceBEq, Nat.reduceBNe, Nat.reduceLT, Int.reduceToNat, Int.reduceEq, Int.reduceLT, Int.reduceLE, reduceCtorEq, Nat.reduceMul, Nat.reduceLeDiff, S_api_Unit.enc, S_graph_wrong.enc]
      rw [wp_cond]
      simp only [RC, RL, RM, ↓evs_eq, loadN, V.slz, V.slz1, lnB, V.left, V.lenOf, slice3, sliceNil, Option.getD_none, sliceOp, cut, upon_each, buildOk, lookup, lookV, update, elemOf, Option.isSome_map, unOp, wanted, aop, tkB, neD, Env.get, Env.put, Env.keep, putD, dstOk, ev, constV, nilSlice, V.demote, V.toOwn, V.cells, ty, R1.res, binOp, isShift, binOpT, isC, intOp, strOp, shiftOp, byteV, index, indexAddr, slice, bounds, hiB, loB, withB, maxV, minV, evs, pickV, lenV, builtin, initEnv, convert, K.isU8, strOf, load, store, fieldOf, append, appT, fltOp, cpxV, realV, imagV, toInt, rangeOp, nextOp, room, fill, placeOf, splice, repl, chunks, Ty.val, Ty.agg, V.plain, H.row, H.ety, AObj.row, Nat.reduceAdd, ↓reduceIte, Nat.reduceEqDiff, Nat.reduceBEq, Nat.reduceBNe, Nat.reduceLT, Int.reduceToNat, Int.reduceEq, Int.reduceLT, Int.reduceLE, reduceCtorEq, Nat.reduceMul, Nat.reduceLeDiff, S_api_Unit.enc, S_graph_wrong.enc]
      by_cases hc53 : ((gt x0 x9_38).Path) = x1
      · replace hq := (R.post_if hq).1 hc53
        refine condK_t (congrArg V.bool (decide_eq_true hc53)) ?_
        rw [wp_seq]
        rw [wp_region]
        simp only [RC, RL, RM, ↓evs_eq, loadN, V.slz, V.slz1, lnB, V.left, V.lenOf, slice3, sliceNil, Option.getD_none, sliceOp, cut, upon_each, buildOk, lookup, lookV, update, elemOf, Option.isSome_map, unOp, wanted, aop, tkB, neD, Env.get, Env.put, Env.keep, putD, dstOk, ev, constV, nilSlice, V.demote, V.toOwn, V.cells, ty, R1.res, binOp, isShift, binOpT, isC, intOp, strOp, shiftOp, byteV, index, indexAddr, slice, bounds, hiB, loB, withB, maxV, minV, evs, pickV, lenV, builtin, initEnv, convert, K.isU8, strOf, load, store, fieldOf, append, appT, fltOp, cpxV, realV, imagV, toInt, rangeOp, nextOp, room, fill, placeOf, splice, repl, chunks, Ty.val, Ty.agg, V.plain, H.row, H.ety, AObj.row, Nat.reduceAdd, ↓reduceIte, Nat.reduceEqDiff, Nat.reduceBEq, Nat.reduceBNe, Nat.reduceLT, Int.reduceToNat, Int.reduceEq, Int.reduceLT, Int.reduceLE, reduceCtorEq, Nat.reduceMul, Nat.reduceLeDiff, S_api_Unit.enc, S_graph_wrong.enc]
        rw [wp_ret]
        simp only [retQ, results, resultAll, resultOne, Nat.zero_add, scopeQ, RC, RL, RM, ↓evs_eq, loadN, V.slz, V.slz1, lnB, V.left, V.lenOf, slice3, sliceNil, Option.getD_none, sliceOp, cut, upon_each, buildOk, lookup, lookV, update, elemOf, Option.isSome_map, unOp, wanted, aop, tkB, neD, Env.get, Env.put, Env.keep, putD, dstOk, ev, constV, nilSlice, V.demote, V.toOwn, V.cells, ty, R1.res, binOp, isShift, binOpT, isC, intOp, strOp, shiftOp, byteV, index, indexAddr, slice, bounds, hiB, loB, withB, maxV, minV, evs, pickV, lenV, builtin, initEnv, convert, K.isU8, strOf, load, store, fieldOf, append, appT, fltOp, cpxV, realV, imagV, toInt, rangeOp, nextOp, room, fill, placeOf, splice, repl, chunks, Ty.val, Ty.agg, V.plain, H.row, H.ety, AObj.row, Nat.reduceAdd, ↓reduceIte, Nat.reduceEqDiff, Nat.reduceBEq, Nat.reduceBNe, Nat.reduceLT, Int.reduceToNat, Int.reduceEq, Int.reduceLT, Int.reduceLE, reduceCtorEq, Nat.reduceMul, Nat.reduceLeDiff, S_api_Unit.enc, S_graph_wrong.enc]
        refine ⟨_, (.refl _), ?_⟩
        refine leave_ok rfl (.int _ _) ?_
        replace hq := hK46 _ hq
        exact hK _ hq
      · replace hq := (R.post_if hq).2 hc53
        refine condK_f (congrArg V.bool (decide_eq_false hc53)) ?_
        try simp only [wp_skip, RC]
        refine Wk.same ?_
        try simp only [RC]
        refine Wk.drop0 (by rfl) (EnvLe.cons (.top _) (EnvLe.cons (.refl _) (EnvLe.cons (.top _) (EnvLe.cons (.top _) (EnvLe.cons (.top _) (EnvLe.cons (.refl _) (EnvLe.cons (.refl _) (EnvLe.cons (.refl _) (EnvLe.cons (.top _) (EnvLe.cons (.top _) EnvLe.nil)))))))))) (EnvCl.cons .top (EnvCl.cons (.str _) (EnvCl.cons .top (EnvCl.cons .top (EnvCl.cons .top (EnvCl.cons (.sl _ _ (cl_map (S_api_Unit.cl _))) (EnvCl.cons (.int _ _) (EnvCl.cons (.int _ _) (EnvCl.cons .top (EnvCl.cons .top (EnvCl.nil _))))))))))) ?_
        try simp only [RC]
        rw [wp_region]
        simp only [RC, RL, RM, ↓evs_eq, loadN, V.slz, V.slz1, lnB, V.left, V.lenOf, slice3, sliceNil, Option.getD_none, sliceOp, cut, upon_each, buildOk, lookup, lookV, update, elemOf, Option.isSome_map, unOp, wanted, aop, tkB, neD, Env.get, Env.put, Env.keep, putD, dstOk, ev, constV, nilSlice, V.demote, V.toOwn, V.cells, ty, R1.res, binOp, isShift, binOpT, isC, intOp, strOp, shiftOp, byteV, index, indexAddr, slice, bounds, hiB, loB, withB, maxV, minV, evs, pickV, lenV, builtin, initEnv, convert, K.isU8, strOf, load, store, fieldOf, append, appT, fltOp, cpxV, realV, imagV, toInt, rangeOp, nextOp, room, fill, placeOf, splice, repl, chunks, Ty.val, Ty.agg, V.plain, H.row, H.ety, AObj.row, Nat.reduceAdd, ↓reduceIte, Nat.reduceEqDiff, Nat.reduceBEq, Nat.reduceBNe, Nat.reduceLT, Int.reduceToNat, Int.reduceEq, Int.reduceLT, Int.reduceLE, reduceCtorEq, Nat.reduceMul, Nat.reduceLeDiff, S_api_Unit.enc, S_graph_wrong.enc]
        refine Wk.same ?_
        exact hN47 (_, _, _, _, (IntKind.wrap .i64 (x9_38 + 1)), _, _) hq
    · replace hq := (R.post_if hq).2 hc48
      refine condK_f (congrArg V.bool (decide_eq_false hc48)) ?_
      rw [wp_exit]
      try simp only [↓reduceIte, Nat.reduceEqDiff, reduceCtorEq, if_false, if_true, eq_self, Nat.succ_ne_self, RC]
      replace hq := hK46 _ hq
      try dsimp only at hq
      refine Wk.le (EnvLe.cons (.refl _) (EnvLe.cons (.refl _) (EnvLe.cons (.refl _) (EnvLe.cons (.refl _) (EnvLe.cons (.refl _) (EnvLe.cons (.top _) (EnvLe.cons (.top _) (EnvLe.cons (.top _) (EnvLe.cons (.top _) (EnvLe.cons (.refl _) EnvLe.nil)))))))))) ?_
      try simp only [RC]
      exact hN30 (_, _, _, _, _, _, _, _, _) hq
end Go.Proofs.Ytmaabgkgjknhpaa.Pv
