/- Functions of the program, as plain Lean functions, and that the code comes to them: printed by gen.py. -/
import Derived.Test.YtmaabgkgjknhpaaG0
set_option linter.unusedVariables false
set_option linter.unusedSimpArgs false
set_option maxHeartbeats 4000000
set_option maxRecDepth 10000
namespace Go.Proofs.Ytmaabgkgjknhpaa.Pv
open Go Go.Proofs

def graph_twice_j0 (o0_0_71 : List (List UInt8 × Int)) : R (Bool) :=
  R.ok false
def graph_twice_l1 (x0 : List (List UInt8)) : Nat → Int → (List (List UInt8 × Int)) → R (((List (List UInt8 × Int))) ⊕ (Bool))
  | 0, _, _ => R.stuck
  | k + 1, x9_96, o0_0_96 => if x9_96 < (List.length x0 : Int) then (if 0 ≤ x9_96 ∧ x9_96 < (List.length x0 : Int) then (if (1 : Int) < (Option.getD (mget (gt x0 x9_96) (mset (gt x0 x9_96) (IntKind.wrap .i64 ((Option.getD (mget (gt x0 x9_96) o0_0_96) 0) + 1)) o0_0_96)) 0) then (R.ok (.inr true)) else (graph_twice_l1 x0 k (IntKind.wrap .i64 (x9_96 + 1)) (mset (gt x0 x9_96) (IntKind.wrap .i64 ((Option.getD (mget (gt x0 x9_96) o0_0_96) 0) + 1)) o0_0_96))) else R.stuck) else (R.ok (.inl o0_0_96))
def graph_twice (x0 : List (List UInt8)) : R (Bool) :=
  (graph_twice_l1 x0 Many 0 []).bind fun | (.inl o0_0p145) => graph_twice_j0 o0_0p145 | (.inr rp146) => R.ok rp146
theorem graph_twice_call {h : H} {x0 : List (List UInt8)} {Q : Out → H → Prop} {KK : (Bool) → Prop} {X : V → Prop} (hq : (graph_twice x0).post KK X) (hK : ∀ r, KK r → Q (.ret (.bool r)) h) (hX : ∀ v, X v → V.Cl 0 v ∧ Q (.panic v) h) : CA qprim 26 [.sl 1 (List.map V.str x0)] h Q := by
  refine acalln hp Try.func26 rfl (by kernel_rfl) (n := 22) rfl (rs := [.tmp 2]) rfl [0, 2, 3, 5, 7, 8, 9, 10, 20] [] true (by simp) ?_
  unfold graph_twice at hq
  simp only [initEnv, List.map_cons, List.map_nil, List.getD_cons_zero, List.getD_cons_succ, List.getD_nil, V.demote]
  rw [wp_seq]
  refine wp_region_i (by rfl) ?_
  simp only [RC, RL, RM, ↓evs_eq, loadN, V.slz, V.slz1, lnB, V.left, V.lenOf, slice3, sliceNil, Option.getD_none, Option.getD_some, sliceOp, cut, upon_each, nextM, entryOp, buildOk, lookup, lookV, update, elemOf, Option.isSome_map, unOp, wanted, aop, tkB, neD, Env.get, Env.put, Env.keep, putD, dstOk, ev, constV, nilSlice, V.demote, V.toOwn, V.cells, ty, R1.res, binOp, isShift, binOpT, isC, intOp, strOp, shiftOp, byteV, index, indexAddr, slice, bounds, hiB, loB, withB, maxV, minV, evs, pickV, lenV, builtin, initEnv, convert, K.isU8, strOf, load, store, fieldOf, append, appT, fltOp, cpxV, realV, imagV, toInt, rangeOp, nextOp, room, fill, placeOf, splice, repl, chunks, Ty.val, Ty.agg, V.plain, H.row, H.ety, AObj.row, Nat.reduceAdd, ↓reduceIte, Nat.reduceEqDiff, Nat.reduceBEq, Nat.reduceBNe, Nat.reduceLT, Int.reduceToNat, Int.reduceEq, Int.reduceLT, Int.reduceLE, reduceCtorEq, Nat.reduceMul, Nat.reduceLeDiff, S_api_Unit.enc, S_graph_wrong.enc]
  rw [wp_seq]
  refine wp_region_i (by rfl) ?_
  simp only [RC, RL, RM, ↓evs_eq, loadN, V.slz, V.slz1, lnB, V.left, V.lenOf, slice3, sliceNil, Option.getD_none, Option.getD_some, sliceOp, cut, upon_each, nextM, entryOp, buildOk, lookup, lookV, update, elemOf, Option.isSome_map, unOp, wanted, aop, tkB, neD, Env.get, Env.put, Env.keep, putD, dstOk, ev, constV, nilSlice, V.demote, V.toOwn, V.cells, ty, R1.res, binOp, isShift, binOpT, isC, intOp, strOp, shiftOp, byteV, index, indexAddr, slice, bounds, hiB, loB, withB, maxV, minV, evs, pickV, lenV, builtin, initEnv, convert, K.isU8, strOf, load, store, fieldOf, append, appT, fltOp, cpxV, realV, imagV, toInt, rangeOp, nextOp, room, fill, placeOf, splice, repl, chunks, Ty.val, Ty.agg, V.plain, H.row, H.ety, AObj.row, Nat.reduceAdd, ↓reduceIte, Nat.reduceEqDiff, Nat.reduceBEq, Nat.reduceBNe, Nat.reduceLT, Int.reduceToNat, Int.reduceEq, Int.reduceLT, Int.reduceLE, reduceCtorEq, Nat.reduceMul, Nat.reduceLeDiff, S_api_Unit.enc, S_graph_wrong.enc]
  refine seq_gen (acall_mono hp) (σ := V × V × V × V × V × V × V × (List (List UInt8 × Int))) (fun s => [(0, .sl 1 (List.map V.str x0)), (2, s.1), (3, .map h.length), (5, s.2.1), (7, s.2.2.1), (8, s.2.2.2.1), (9, s.2.2.2.2.1), (10, s.2.2.2.2.2.1), (20, s.2.2.2.2.2.2.1)]) (fun s => h ++ [.map (List.map (ent (V.int .i64)) s.2.2.2.2.2.2.2)]) (fun s => (graph_twice_j0 s.2.2.2.2.2.2.2).post KK X) (fun s hq => ?_) (fun N hN72 => ?_)
  · obtain ⟨y2_71, y5_71, y7_71, y8_71, y9_71, y10_71, y20_71, o0_0_71⟩ := s
    try dsimp only at hq ⊢
    unfold graph_twice_j0 at hq
    rw [wp_seq]
    refine wp_region_i (by rfl) ?_
    simp only [RC, RL, RM, ↓evs_eq, loadN, V.slz, V.slz1, lnB, V.left, V.lenOf, slice3, sliceNil, Option.getD_none, Option.getD_some, sliceOp, cut, upon_each, nextM, entryOp, buildOk, lookup, lookV, update, elemOf, Option.isSome_map, unOp, wanted, aop, tkB, neD, Env.get, Env.put, Env.keep, putD, dstOk, ev, constV, nilSlice, V.demote, V.toOwn, V.cells, ty, R1.res, binOp, isShift, binOpT, isC, intOp, strOp, shiftOp, byteV, index, indexAddr, slice, bounds, hiB, loB, withB, maxV, minV, evs, pickV, lenV, builtin, initEnv, convert, K.isU8, strOf, load, store, fieldOf, append, appT, fltOp, cpxV, realV, imagV, toInt, rangeOp, nextOp, room, fill, placeOf, splice, repl, chunks, Ty.val, Ty.agg, V.plain, H.row, H.ety, AObj.row, Nat.reduceAdd, ↓reduceIte, Nat.reduceEqDiff, Nat.reduceBEq, Nat.reduceBNe, Nat.reduceLT, Int.reduceToNat, Int.reduceEq, Int.reduceLT, Int.reduceLE, reduceCtorEq, Nat.reduceMul, Nat.reduceLeDiff, S_api_Unit.enc, S_graph_wrong.enc]
    rw [wp_ret]
    simp only [retQ, results, resultAll, resultOne, Nat.zero_add, scopeQ, RC, RL, RM, ↓evs_eq, loadN, V.slz, V.slz1, lnB, V.left, V.lenOf, slice3, sliceNil, Option.getD_none, Option.getD_some, sliceOp, cut, upon_each, nextM, entryOp, buildOk, lookup, lookV, update, elemOf, Option.isSome_map, unOp, wanted, aop, tkB, neD, Env.get, Env.put, Env.keep, putD, dstOk, ev, constV, nilSlice, V.demote, V.toOwn, V.cells, ty, R1.res, binOp, isShift, binOpT, isC, intOp, strOp, shiftOp, byteV, index, indexAddr, slice, bounds, hiB, loB, withB, maxV, minV, evs, pickV, lenV, builtin, initEnv, convert, K.isU8, strOf, load, store, fieldOf, append, appT, fltOp, cpxV, realV, imagV, toInt, rangeOp, nextOp, room, fill, placeOf, splice, repl, chunks, Ty.val, Ty.agg, V.plain, H.row, H.ety, AObj.row, Nat.reduceAdd, ↓reduceIte, Nat.reduceEqDiff, Nat.reduceBEq, Nat.reduceBNe, Nat.reduceLT, Int.reduceToNat, Int.reduceEq, Int.reduceLT, Int.reduceLE, reduceCtorEq, Nat.reduceMul, Nat.reduceLeDiff, S_api_Unit.enc, S_graph_wrong.enc]
    refine ⟨_, (.refl _), ?_⟩
    refine leave_ok rfl (.bool _) ?_
    exact hK _ hq
  · rw [wp_seq]
    refine wp_region_i (by rfl) ?_
    simp only [RC, RL, RM, ↓evs_eq, loadN, V.slz, V.slz1, lnB, V.left, V.lenOf, slice3, sliceNil, Option.getD_none, Option.getD_some, sliceOp, cut, upon_each, nextM, entryOp, buildOk, lookup, lookV, update, elemOf, Option.isSome_map, unOp, wanted, aop, tkB, neD, Env.get, Env.put, Env.keep, putD, dstOk, ev, constV, nilSlice, V.demote, V.toOwn, V.cells, ty, R1.res, binOp, isShift, binOpT, isC, intOp, strOp, shiftOp, byteV, index, indexAddr, slice, bounds, hiB, loB, withB, maxV, minV, evs, pickV, lenV, builtin, initEnv, convert, K.isU8, strOf, load, store, fieldOf, append, appT, fltOp, cpxV, realV, imagV, toInt, rangeOp, nextOp, room, fill, placeOf, splice, repl, chunks, Ty.val, Ty.agg, V.plain, H.row, H.ety, AObj.row, Nat.reduceAdd, ↓reduceIte, Nat.reduceEqDiff, Nat.reduceBEq, Nat.reduceBNe, Nat.reduceLT, Int.reduceToNat, Int.reduceEq, Int.reduceLT, Int.reduceLE, reduceCtorEq, Nat.reduceMul, Nat.reduceLeDiff, S_api_Unit.enc, S_graph_wrong.enc]
    rw [wp_block]
    refine loop_in ?_
    refine Wk.le (EnvLe.cons (.refl _) (EnvLe.cons (.top _) (EnvLe.cons (.refl _) (EnvLe.cons (.refl _) (EnvLe.cons (.refl _) (EnvLe.cons (.refl _) (EnvLe.cons (.refl _) (EnvLe.cons (.refl _) (EnvLe.cons (.refl _) EnvLe.nil))))))))) ?_
    obtain ⟨K119, hK120, hq⟩ := R.post_cut hq
    refine loop_gen (acall_mono hp) (σ := V × V × Int × V × V × (List (List UInt8 × Int))) (fun s => [(0, .sl 1 (List.map V.str x0)), (2, s.1), (3, .map h.length), (5, s.2.1), (7, .sl 1 (List.map V.str x0)), (8, .int .i64 (List.length x0 : Int)), (9, .int .i64 s.2.2.1), (10, s.2.2.2.1), (20, s.2.2.2.2.1)]) (fun s => h ++ [.map (List.map (ent (V.int .i64)) s.2.2.2.2.2)]) (fun k s => (graph_twice_l1 x0 k s.2.2.1 s.2.2.2.2.2).post K119 X) (fun s hs => hs) (fun k144 s hq N hN121 => ?_) _ (_, _, 0, _, _, []) hq
    obtain ⟨y2_96, y5_96, x9_96, y10_96, y20_96, o0_0_96⟩ := s
    try dsimp only at hq ⊢
    rw [graph_twice_l1] at hq
    rw [wp_seq]
    refine wp_region_i (by rfl) ?_
    simp only [RC, RL, RM, ↓evs_eq, loadN, V.slz, V.slz1, lnB, V.left, V.lenOf, slice3, sliceNil, Option.getD_none, Option.getD_some, sliceOp, cut, upon_each, nextM, entryOp, buildOk, lookup, lookV, update, elemOf, Option.isSome_map, unOp, wanted, aop, tkB, neD, Env.get, Env.put, Env.keep, putD, dstOk, ev, constV, nilSlice, V.demote, V.toOwn, V.cells, ty, R1.res, binOp, isShift, binOpT, isC, intOp, strOp, shiftOp, byteV, index, indexAddr, slice, bounds, hiB, loB, withB, maxV, minV, evs, pickV, lenV, builtin, initEnv, convert, K.isU8, strOf, load, store, fieldOf, append, appT, fltOp, cpxV, realV, imagV, toInt, rangeOp, nextOp, room, fill, placeOf, splice, repl, chunks, Ty.val, Ty.agg, V.plain, H.row, H.ety, AObj.row, Nat.reduceAdd, ↓reduceIte, Nat.reduceEqDiff, Nat.reduceBEq, Nat.reduceBNe, Nat.reduceLT, Int.reduceToNat, Int.reduceEq, Int.reduceLT, Int.reduceLE, reduceCtorEq, Nat.reduceMul, Nat.reduceLeDiff, S_api_Unit.enc, S_graph_wrong.enc]
    rw [wp_seq]
    rw [wp_cond]
    simp only [RC, RL, RM, ↓evs_eq, loadN, V.slz, V.slz1, lnB, V.left, V.lenOf, slice3, sliceNil, Option.getD_none, Option.getD_some, sliceOp, cut, upon_each, nextM, entryOp, buildOk, lookup, lookV, update, elemOf, Option.isSome_map, unOp, wanted, aop, tkB, neD, Env.get, Env.put, Env.keep, putD, dstOk, ev, constV, nilSlice, V.demote, V.toOwn, V.cells, ty, R1.res, binOp, isShift, binOpT, isC, intOp, strOp, shiftOp, byteV, index, indexAddr, slice, bounds, hiB, loB, withB, maxV, minV, evs, pickV, lenV, builtin, initEnv, convert, K.isU8, strOf, load, store, fieldOf, append, appT, fltOp, cpxV, realV, imagV, toInt, rangeOp, nextOp, room, fill, placeOf, splice, repl, chunks, Ty.val, Ty.agg, V.plain, H.row, H.ety, AObj.row, Nat.reduceAdd, ↓reduceIte, Nat.reduceEqDiff, Nat.reduceBEq, Nat.reduceBNe, Nat.reduceLT, Int.reduceToNat, Int.reduceEq, Int.reduceLT, Int.reduceLE, reduceCtorEq, Nat.reduceMul, Nat.reduceLeDiff, S_api_Unit.enc, S_graph_wrong.enc]
    by_cases hc122 : x9_96 < (List.length x0 : Int)
    · replace hq := (R.post_if hq).1 hc122
      refine condK_t (congrArg V.bool (decide_eq_true hc122)) ?_
      try simp only [wp_skip, RC]
      refine Wk.same ?_
      try simp only [RC]
      rw [wp_seq]
      rw [wp_block]
      rw [wp_seq]
      refine wp_region_i (by rfl) ?_
      obtain ⟨g125, hq⟩ := R.guard hq
      have e126 := map_gt (f := V.str) (l := x0) (i := x9_96) g125
      simp only [e126, RC, RL, RM, ↓evs_eq, loadN, V.slz, V.slz1, lnB, V.left, V.lenOf, slice3, sliceNil, Option.getD_none, Option.getD_some, sliceOp, cut, upon_each, nextM, entryOp, buildOk, lookup, lookV, update, elemOf, Option.isSome_map, unOp, wanted, aop, tkB, neD, Env.get, Env.put, Env.keep, putD, dstOk, ev, constV, nilSlice, V.demote, V.toOwn, V.cells, ty, R1.res, binOp, isShift, binOpT, isC, intOp, strOp, shiftOp, byteV, index, indexAddr, slice, bounds, hiB, loB, withB, maxV, minV, evs, pickV, lenV, builtin, initEnv, convert, K.isU8, strOf, load, store, fieldOf, append, appT, fltOp, cpxV, realV, imagV, toInt, rangeOp, nextOp, room, fill, placeOf, splice, repl, chunks, Ty.val, Ty.agg, V.plain, H.row, H.ety, AObj.row, Nat.reduceAdd, ↓reduceIte, Nat.reduceEqDiff, Nat.reduceBEq, Nat.reduceBNe, Nat.reduceLT, Int.reduceToNat, Int.reduceEq, Int.reduceLT, Int.reduceLE, reduceCtorEq, Nat.reduceMul, Nat.reduceLeDiff, S_api_Unit.enc, S_graph_wrong.enc]
      repeat (with_reducible refine And.intro (by first | omega | assumption) ?_)
      rw [wp_seq]
      refine wp_region_i (by rfl) ?_
      have e133 : textKeys (List.map (ent (V.int .i64)) o0_0_96) = true := textKeys_map (f := (V.int .i64)) o0_0_96
      have e132 : mapGet (gt x0 x9_96) (List.map (ent (V.int .i64)) o0_0_96) = Option.map (V.int .i64) (mget (gt x0 x9_96) o0_0_96) := mapGet_map o0_0_96
      have e134 : Option.getD (Option.map (V.int .i64) (mget (gt x0 x9_96) o0_0_96)) (.int .i64 0) = .int .i64 (Option.getD (mget (gt x0 x9_96) o0_0_96) 0) := by cases mget (gt x0 x9_96) o0_0_96 <;> rfl
      have e136 : textKeys (List.map (ent (V.int .i64)) o0_0_96) = true := textKeys_map (f := (V.int .i64)) o0_0_96
      have e135 : mapSet (gt x0 x9_96) (.int .i64 (IntKind.wrap .i64 ((Option.getD (mget (gt x0 x9_96) o0_0_96) 0) + 1))) (List.map (ent (V.int .i64)) o0_0_96) = (List.map (ent (V.int .i64)) (mset (gt x0 x9_96) (IntKind.wrap .i64 ((Option.getD (mget (gt x0 x9_96) o0_0_96) 0) + 1)) o0_0_96)) := mapSet_map (f := (V.int .i64)) (IntKind.wrap .i64 ((Option.getD (mget (gt x0 x9_96) o0_0_96) 0) + 1)) o0_0_96
      simp only [e133, e132, e134, e136, e135, RC, RL, RM, ↓evs_eq, loadN, V.slz, V.slz1, lnB, V.left, V.lenOf, slice3, sliceNil, Option.getD_none, Option.getD_some, sliceOp, cut, upon_each, nextM, entryOp, buildOk, lookup, lookV, update, elemOf, Option.isSome_map, unOp, wanted, aop, tkB, neD, Env.get, Env.put, Env.keep, putD, dstOk, ev, constV, nilSlice, V.demote, V.toOwn, V.cells, ty, R1.res, binOp, isShift, binOpT, isC, intOp, strOp, shiftOp, byteV, index, indexAddr, slice, bounds, hiB, loB, withB, maxV, minV, evs, pickV, lenV, builtin, initEnv, convert, K.isU8, strOf, load, store, fieldOf, append, appT, fltOp, cpxV, realV, imagV, toInt, rangeOp, nextOp, room, fill, placeOf, splice, repl, chunks, Ty.val, Ty.agg, V.plain, H.row, H.ety, AObj.row, Nat.reduceAdd, ↓reduceIte, Nat.reduceEqDiff, Nat.reduceBEq, Nat.reduceBNe, Nat.reduceLT, Int.reduceToNat, Int.reduceEq, Int.reduceLT, Int.reduceLE, reduceCtorEq, Nat.reduceMul, Nat.reduceLeDiff, S_api_Unit.enc, S_graph_wrong.enc]
      rw [wp_seq]
      refine wp_region_i (by rfl) ?_
      have e141 : textKeys (List.map (ent (V.int .i64)) (mset (gt x0 x9_96) (IntKind.wrap .i64 ((Option.getD (mget (gt x0 x9_96) o0_0_96) 0) + 1)) o0_0_96)) = true := textKeys_map (f := (V.int .i64)) (mset (gt x0 x9_96) (IntKind.wrap .i64 ((Option.getD (mget (gt x0 x9_96) o0_0_96) 0) + 1)) o0_0_96)
      have e140 : mapGet (gt x0 x9_96) (List.map (ent (V.int .i64)) (mset (gt x0 x9_96) (IntKind.wrap .i64 ((Option.getD (mget (gt x0 x9_96) o0_0_96) 0) + 1)) o0_0_96)) = Option.map (V.int .i64) (mget (gt x0 x9_96) (mset (gt x0 x9_96) (IntKind.wrap .i64 ((Option.getD (mget (gt x0 x9_96) o0_0_96) 0) + 1)) o0_0_96)) := mapGet_map (mset (gt x0 x9_96) (IntKind.wrap .i64 ((Option.getD (mget (gt x0 x9_96) o0_0_96) 0) + 1)) o0_0_96)
      have e142 : Option.getD (Option.map (V.int .i64) (mget (gt x0 x9_96) (mset (gt x0 x9_96) (IntKind.wrap .i64 ((Option.getD (mget (gt x0 x9_96) o0_0_96) 0) + 1)) o0_0_96))) (.int .i64 0) = .int .i64 (Option.getD (mget (gt x0 x9_96) (mset (gt x0 x9_96) (IntKind.wrap .i64 ((Option.getD (mget (gt x0 x9_96) o0_0_96) 0) + 1)) o0_0_96)) 0) := by cases mget (gt x0 x9_96) (mset (gt x0 x9_96) (IntKind.wrap .i64 ((Option.getD (mget (gt x0 x9_96) o0_0_96) 0) + 1)) o0_0_96) <;> rfl
      simp only [e141, e140, e142, RC, RL, RM, ↓evs_eq, loadN, V.slz, V.slz1, lnB, V.left, V.lenOf, slice3, sliceNil, Option.getD_none, Option.getD_some, sliceOp, cut, upon_each, nextM, entryOp, buildOk, lookup, lookV, update, elemOf, Option.isSome_map, unOp, wanted, aop, tkB, neD, Env.get, Env.put, Env.keep, putD, dstOk, ev, constV, nilSlice, V.demote, V.toOwn, V.cells, ty, R1.res, binOp, isShift, binOpT, isC, intOp, strOp, shiftOp, byteV, index, indexAddr, slice, bounds, hiB, loB, withB, maxV, minV, evs, pickV, lenV, builtin, initEnv, convert, K.isU8, strOf, load, store, fieldOf, append, appT, fltOp, cpxV, realV, imagV, toInt, rangeOp, nextOp, room, fill, placeOf, splice, repl, chunks, Ty.val, Ty.agg, V.plain, H.row, H.ety, AObj.row, Nat.reduceAdd, ↓reduceIte, Nat.reduceEqDiff, Nat.reduceBEq, Nat.reduceBNe, Nat.reduceLT, Int.reduceToNat, Int.reduceEq, Int.reduceLT, Int.reduceLE, reduceCtorEq, Nat.reduceMul, Nat.reduceLeDiff, S_api_Unit.enc, S_graph_wrong.enc]
      rw [wp_cond]
      simp only [RC, RL, RM, ↓evs_eq, loadN, V.slz, V.slz1, lnB, V.left, V.lenOf, slice3, sliceNil, Option.getD_none, Option.getD_some, sliceOp, cut, upon_each, nextM, entryOp, buildOk, lookup, lookV, update, elemOf, Option.isSome_map, unOp, wanted, aop, tkB, neD, Env.get, Env.put, Env.keep, putD, dstOk, ev, constV, nilSlice, V.demote, V.toOwn, V.cells, ty, R1.res, binOp, isShift, binOpT, isC, intOp, strOp, shiftOp, byteV, index, indexAddr, slice, bounds, hiB, loB, withB, maxV, minV, evs, pickV, lenV, builtin, initEnv, convert, K.isU8, strOf, load, store, fieldOf, append, appT, fltOp, cpxV, realV, imagV, toInt, rangeOp, nextOp, room, fill, placeOf, splice, repl, chunks, Ty.val, Ty.agg, V.plain, H.row, H.ety, AObj.row, Nat.reduceAdd, ↓reduceIte, Nat.reduceEqDiff, Nat.reduceBEq, Nat.reduceBNe, Nat.reduceLT, Int.reduceToNat, Int.reduceEq, Int.reduceLT, Int.reduceLE, reduceCtorEq, Nat.reduceMul, Nat.reduceLeDiff, S_api_Unit.enc, S_graph_wrong.enc]
      by_cases hc143 : (1 : Int) < (Option.getD (mget (gt x0 x9_96) (mset (gt x0 x9_96) (IntKind.wrap .i64 ((Option.getD (mget (gt x0 x9_96) o0_0_96) 0) + 1)) o0_0_96)) 0)
      · replace hq := (R.post_if hq).1 hc143
        refine condK_t (congrArg V.bool (decide_eq_true hc143)) ?_
        rw [wp_seq]
        refine wp_region_i (by rfl) ?_
        simp only [RC, RL, RM, ↓evs_eq, loadN, V.slz, V.slz1, lnB, V.left, V.lenOf, slice3, sliceNil, Option.getD_none, Option.getD_some, sliceOp, cut, upon_each, nextM, entryOp, buildOk, lookup, lookV, update, elemOf, Option.isSome_map, unOp, wanted, aop, tkB, neD, Env.get, Env.put, Env.keep, putD, dstOk, ev, constV, nilSlice, V.demote, V.toOwn, V.cells, ty, R1.res, binOp, isShift, binOpT, isC, intOp, strOp, shiftOp, byteV, index, indexAddr, slice, bounds, hiB, loB, withB, maxV, minV, evs, pickV, lenV, builtin, initEnv, convert, K.isU8, strOf, load, store, fieldOf, append, appT, fltOp, cpxV, realV, imagV, toInt, rangeOp, nextOp, room, fill, placeOf, splice, repl, chunks, Ty.val, Ty.agg, V.plain, H.row, H.ety, AObj.row, Nat.reduceAdd, ↓reduceIte, Nat.reduceEqDiff, Nat.reduceBEq, Nat.reduceBNe, Nat.reduceLT, Int.reduceToNat, Int.reduceEq, Int.reduceLT, Int.reduceLE, reduceCtorEq, Nat.reduceMul, Nat.reduceLeDiff, S_api_Unit.enc, S_graph_wrong.enc]
        rw [wp_ret]
        simp only [retQ, results, resultAll, resultOne, Nat.zero_add, scopeQ, RC, RL, RM, ↓evs_eq, loadN, V.slz, V.slz1, lnB, V.left, V.lenOf, slice3, sliceNil, Option.getD_none, Option.getD_some, sliceOp, cut, upon_each, nextM, entryOp, buildOk, lookup, lookV, update, elemOf, Option.isSome_map, unOp, wanted, aop, tkB, neD, Env.get, Env.put, Env.keep, putD, dstOk, ev, constV, nilSlice, V.demote, V.toOwn, V.cells, ty, R1.res, binOp, isShift, binOpT, isC, intOp, strOp, shiftOp, byteV, index, indexAddr, slice, bounds, hiB, loB, withB, maxV, minV, evs, pickV, lenV, builtin, initEnv, convert, K.isU8, strOf, load, store, fieldOf, append, appT, fltOp, cpxV, realV, imagV, toInt, rangeOp, nextOp, room, fill, placeOf, splice, repl, chunks, Ty.val, Ty.agg, V.plain, H.row, H.ety, AObj.row, Nat.reduceAdd, ↓reduceIte, Nat.reduceEqDiff, Nat.reduceBEq, Nat.reduceBNe, Nat.reduceLT, Int.reduceToNat, Int.reduceEq, Int.reduceLT, Int.reduceLE, reduceCtorEq, Nat.reduceMul, Nat.reduceLeDiff, S_api_Unit.enc, S_graph_wrong.enc]
        refine ⟨_, (.refl _), ?_⟩
        refine leave_ok rfl (.bool _) ?_
        replace hq := hK120 _ hq
        exact hK _ hq
      · replace hq := (R.post_if hq).2 hc143
        refine condK_f (congrArg V.bool (decide_eq_false hc143)) ?_
        try simp only [wp_skip, RC]
        refine Wk.same ?_
        try simp only [RC]
        refine Wk.same ?_
        try simp only [RC]
        refine wp_region_i (by rfl) ?_
        simp only [RC, RL, RM, ↓evs_eq, loadN, V.slz, V.slz1, lnB, V.left, V.lenOf, slice3, sliceNil, Option.getD_none, Option.getD_some, sliceOp, cut, upon_each, nextM, entryOp, buildOk, lookup, lookV, update, elemOf, Option.isSome_map, unOp, wanted, aop, tkB, neD, Env.get, Env.put, Env.keep, putD, dstOk, ev, constV, nilSlice, V.demote, V.toOwn, V.cells, ty, R1.res, binOp, isShift, binOpT, isC, intOp, strOp, shiftOp, byteV, index, indexAddr, slice, bounds, hiB, loB, withB, maxV, minV, evs, pickV, lenV, builtin, initEnv, convert, K.isU8, strOf, load, store, fieldOf, append, appT, fltOp, cpxV, realV, imagV, toInt, rangeOp, nextOp, room, fill, placeOf, splice, repl, chunks, Ty.val, Ty.agg, V.plain, H.row, H.ety, AObj.row, Nat.reduceAdd, ↓reduceIte, Nat.reduceEqDiff, Nat.reduceBEq, Nat.reduceBNe, Nat.reduceLT, Int.reduceToNat, Int.reduceEq, Int.reduceLT, Int.reduceLE, reduceCtorEq, Nat.reduceMul, Nat.reduceLeDiff, S_api_Unit.enc, S_graph_wrong.enc]
        refine Wk.le (EnvLe.cons (.refl _) (EnvLe.cons (.refl _) (EnvLe.cons (.refl _) (EnvLe.cons (.top _) (EnvLe.cons (.refl _) (EnvLe.cons (.refl _) (EnvLe.cons (.refl _) (EnvLe.cons (.top _) (EnvLe.cons (.top _) EnvLe.nil))))))))) ?_
        exact hN121 (_, _, (IntKind.wrap .i64 (x9_96 + 1)), _, _, (mset (gt x0 x9_96) (IntKind.wrap .i64 ((Option.getD (mget (gt x0 x9_96) o0_0_96) 0) + 1)) o0_0_96)) hq
    · replace hq := (R.post_if hq).2 hc122
      refine condK_f (congrArg V.bool (decide_eq_false hc122)) ?_
      rw [wp_exit]
      try simp only [↓reduceIte, Nat.reduceEqDiff, reduceCtorEq, if_false, if_true, eq_self, Nat.succ_ne_self, RC]
      replace hq := hK120 _ hq
      try dsimp only at hq
      refine Wk.le (EnvLe.cons (.refl _) (EnvLe.cons (.refl _) (EnvLe.cons (.refl _) (EnvLe.cons (.refl _) (EnvLe.cons (.top _) (EnvLe.cons (.top _) (EnvLe.cons (.top _) (EnvLe.cons (.top _) (EnvLe.cons (.refl _) EnvLe.nil))))))))) ?_
      try simp only [RC]
      exact hN72 (_, _, _, _, _, _, _, o0_0_96) hq
end Go.Proofs.Ytmaabgkgjknhpaa.Pv
