/- Functions of the program, as plain Lean functions, and that the code comes to them: printed by gen.py. -/
import Derived.Test.YtmaabgkgjknhpaaG0
set_option linter.unusedVariables false
set_option linter.unusedSimpArgs false
set_option maxHeartbeats 4000000
set_option maxRecDepth 10000
namespace Go.Proofs.Ytmaabgkgjknhpaa.Pv
open Go Go.Proofs

def graph_units_j0 (o0_0_68 : List (List UInt8 × S_api_Unit)) : R ((List (List UInt8 × S_api_Unit))) :=
  R.ok o0_0_68
def graph_units_l1 (x0 : List S_api_Unit) : Nat → Int → (List (List UInt8 × S_api_Unit)) → R ((List (List UInt8 × S_api_Unit)))
  | 0, _, _ => R.stuck
  | k + 1, x11_87, o0_0_87 => if x11_87 < (List.length x0 : Int) then (if 0 ≤ x11_87 ∧ x11_87 < (List.length x0 : Int) then (if (Option.isSome (mget ((gt x0 x11_87).Path) o0_0_87)) = true then (graph_units_l1 x0 k (IntKind.wrap .i64 (x11_87 + 1)) o0_0_87) else (graph_units_l1 x0 k (IntKind.wrap .i64 (x11_87 + 1)) (mset ((gt x0 x11_87).Path) (gt x0 x11_87) o0_0_87))) else R.stuck) else (R.ok o0_0_87)
def graph_units (x0 : List S_api_Unit) : R ((List (List UInt8 × S_api_Unit))) :=
  (graph_units_l1 x0 Many 0 []).bind fun o0_0p124 => graph_units_j0 o0_0p124
theorem graph_units_call {h : H} {x0 : List S_api_Unit} {Q : Out → H → Prop} {KK : ((List (List UInt8 × S_api_Unit))) → Prop} {X : V → Prop} (hq : (graph_units x0).post KK X) (hK : ∀ r, KK r → Q (.ret (.map h.length)) (h ++ [.map (List.map (ent S_api_Unit.enc) r)])) (hX : ∀ v, X v → False) : CA qprim 24 [.sl 3 (List.map S_api_Unit.enc x0)] h Q := by
  refine acalln hp Try.func24 rfl (by kernel_rfl) (n := 30) rfl (rs := [.tmp 2]) rfl [0, 2, 3, 5, 7, 9, 10, 11, 12, 23] [] false (by simp) ?_
  unfold graph_units at hq
  simp only [initEnv, List.map_cons, List.map_nil, List.getD_cons_zero, List.getD_cons_succ, List.getD_nil, V.demote]
  rw [wp_seq]
  rw [wp_region]
  simp only [RC, RL, RM, ↓evs_eq, loadN, V.slz, V.slz1, lnB, V.left, V.lenOf, slice3, sliceNil, Option.getD_none, sliceOp, cut, upon_each, buildOk, lookup, lookV, update, elemOf, Option.isSome_map, unOp, wanted, aop, tkB, neD, Env.get, Env.put, Env.keep, putD, dstOk, ev, constV, nilSlice, V.demote, V.toOwn, V.cells, ty, R1.res, binOp, isShift, binOpT, isC, intOp, strOp, shiftOp, byteV, index, indexAddr, slice, bounds, hiB, loB, withB, maxV, minV, evs, pickV, lenV, builtin, initEnv, convert, K.isU8, strOf, load, store, fieldOf, append, appT, fltOp, cpxV, realV, imagV, toInt, rangeOp, nextOp, room, fill, placeOf, splice, repl, chunks, Ty.val, Ty.agg, V.plain, H.row, H.ety, AObj.row, Nat.reduceAdd, ↓reduceIte, Nat.reduceEqDiff, Nat.reduceBEq, Nat.reduceBNe, Nat.reduceLT, Int.reduceToNat, Int.reduceEq, Int.reduceLT, Int.reduceLE, reduceCtorEq, Nat.reduceMul, Nat.reduceLeDiff, S_api_Unit.enc, S_graph_wrong.enc]
  rw [wp_seq]
  rw [wp_region]
  simp only [RC, RL, RM, ↓evs_eq, loadN, V.slz, V.slz1, lnB, V.left, V.lenOf, slice3, sliceNil, Option.getD_none, sliceOp, cut, upon_each, buildOk, lookup, lookV, update, elemOf, Option.isSome_map, unOp, wanted, aop, tkB, neD, Env.get, Env.put, Env.keep, putD, dstOk, ev, constV, nilSlice, V.demote, V.toOwn, V.cells, ty, R1.res, binOp, isShift, binOpT, isC, intOp, strOp, shiftOp, byteV, index, indexAddr, slice, bounds, hiB, loB, withB, maxV, minV, evs, pickV, lenV, builtin, initEnv, convert, K.isU8, strOf, load, store, fieldOf, append, appT, fltOp, cpxV, realV, imagV, toInt, rangeOp, nextOp, room, fill, placeOf, splice, repl, chunks, Ty.val, Ty.agg, V.plain, H.row, H.ety, AObj.row, Nat.reduceAdd, ↓reduceIte, Nat.reduceEqDiff, Nat.reduceBEq, Nat.reduceBNe, Nat.reduceLT, Int.reduceToNat, Int.reduceEq, Int.reduceLT, Int.reduceLE, reduceCtorEq, Nat.reduceMul, Nat.reduceLeDiff, S_api_Unit.enc, S_graph_wrong.enc]
  refine seq_gen (acall_mono hp) (σ := V × V × V × V × V × V × V × V × V × (List (List UInt8 × S_api_Unit))) (fun s => [(0, s.1), (2, s.2.1), (3, .map h.length), (5, s.2.2.1), (7, s.2.2.2.1), (9, s.2.2.2.2.1), (10, s.2.2.2.2.2.1), (11, s.2.2.2.2.2.2.1), (12, s.2.2.2.2.2.2.2.1), (23, s.2.2.2.2.2.2.2.2.1)]) (fun s => h ++ [.map (List.map (ent S_api_Unit.enc) s.2.2.2.2.2.2.2.2.2)]) (fun s => (graph_units_j0 s.2.2.2.2.2.2.2.2.2).post KK X) (fun s hq => ?_) (fun N hN69 => ?_)
  · obtain ⟨y0_68, y2_68, y5_68, y7_68, y9_68, y10_68, y11_68, y12_68, y23_68, o0_0_68⟩ := s
    try dsimp only at hq ⊢
    unfold graph_units_j0 at hq
    rw [wp_seq]
    rw [wp_region]
    simp only [RC, RL, RM, ↓evs_eq, loadN, V.slz, V.slz1, lnB, V.left, V.lenOf, slice3, sliceNil, Option.getD_none, sliceOp, cut, upon_each, buildOk, lookup, lookV, update, elemOf, Option.isSome_map, unOp, wanted, aop, tkB, neD, Env.get, Env.put, Env.keep, putD, dstOk, ev, constV, nilSlice, V.demote, V.toOwn, V.cells, ty, R1.res, binOp, isShift, binOpT, isC, intOp, strOp, shiftOp, byteV, index, indexAddr, slice, bounds, hiB, loB, withB, maxV, minV, evs, pickV, lenV, builtin, initEnv, convert, K.isU8, strOf, load, store, fieldOf, append, appT, fltOp, cpxV, realV, imagV, toInt, rangeOp, nextOp, room, fill, placeOf, splice, repl, chunks, Ty.val, Ty.agg, V.plain, H.row, H.ety, AObj.row, Nat.reduceAdd, ↓reduceIte, Nat.reduceEqDiff, Nat.reduceBEq, Nat.reduceBNe, Nat.reduceLT, Int.reduceToNat, Int.reduceEq, Int.reduceLT, Int.reduceLE, reduceCtorEq, Nat.reduceMul, Nat.reduceLeDiff, S_api_Unit.enc, S_graph_wrong.enc]
    rw [wp_ret]
    simp only [retQ, results, resultAll, resultOne, Nat.zero_add, scopeQ, RC, RL, RM, ↓evs_eq, loadN, V.slz, V.slz1, lnB, V.left, V.lenOf, slice3, sliceNil, Option.getD_none, sliceOp, cut, upon_each, buildOk, lookup, lookV, update, elemOf, Option.isSome_map, unOp, wanted, aop, tkB, neD, Env.get, Env.put, Env.keep, putD, dstOk, ev, constV, nilSlice, V.demote, V.toOwn, V.cells, ty, R1.res, binOp, isShift, binOpT, isC, intOp, strOp, shiftOp, byteV, index, indexAddr, slice, bounds, hiB, loB, withB, maxV, minV, evs, pickV, lenV, builtin, initEnv, convert, K.isU8, strOf, load, store, fieldOf, append, appT, fltOp, cpxV, realV, imagV, toInt, rangeOp, nextOp, room, fill, placeOf, splice, repl, chunks, Ty.val, Ty.agg, V.plain, H.row, H.ety, AObj.row, Nat.reduceAdd, ↓reduceIte, Nat.reduceEqDiff, Nat.reduceBEq, Nat.reduceBNe, Nat.reduceLT, Int.reduceToNat, Int.reduceEq, Int.reduceLT, Int.reduceLE, reduceCtorEq, Nat.reduceMul, Nat.reduceLeDiff, S_api_Unit.enc, S_graph_wrong.enc]
    refine ⟨_, (.refl _), ?_⟩
    exact hK _ hq
  · rw [wp_seq]
    rw [wp_region]
    simp only [RC, RL, RM, ↓evs_eq, loadN, V.slz, V.slz1, lnB, V.left, V.lenOf, slice3, sliceNil, Option.getD_none, sliceOp, cut, upon_each, buildOk, lookup, lookV, update, elemOf, Option.isSome_map, unOp, wanted, aop, tkB, neD, Env.get, Env.put, Env.keep, putD, dstOk, ev, constV, nilSlice, V.demote, V.toOwn, V.cells, ty, R1.res, binOp, isShift, binOpT, isC, intOp, strOp, shiftOp, byteV, index, indexAddr, slice, bounds, hiB, loB, withB, maxV, minV, evs, pickV, lenV, builtin, initEnv, convert, K.isU8, strOf, load, store, fieldOf, append, appT, fltOp, cpxV, realV, imagV, toInt, rangeOp, nextOp, room, fill, placeOf, splice, repl, chunks, Ty.val, Ty.agg, V.plain, H.row, H.ety, AObj.row, Nat.reduceAdd, ↓reduceIte, Nat.reduceEqDiff, Nat.reduceBEq, Nat.reduceBNe, Nat.reduceLT, Int.reduceToNat, Int.reduceEq, Int.reduceLT, Int.reduceLE, reduceCtorEq, Nat.reduceMul, Nat.reduceLeDiff, S_api_Unit.enc, S_graph_wrong.enc]
    rw [wp_block]
    refine loop_in ?_
    refine Wk.le (EnvLe.cons (.top _) (EnvLe.cons (.top _) (EnvLe.cons (.refl _) (EnvLe.cons (.refl _) (EnvLe.cons (.refl _) (EnvLe.cons (.refl _) (EnvLe.cons (.refl _) (EnvLe.cons (.refl _) (EnvLe.cons (.refl _) (EnvLe.cons (.refl _) EnvLe.nil)))))))))) ?_
    obtain ⟨K104, hK105, hq⟩ := R.post_cut hq
    refine loop_gen (acall_mono hp) (σ := V × V × V × V × Int × V × V × (List (List UInt8 × S_api_Unit))) (fun s => [(0, s.1), (2, s.2.1), (3, .map h.length), (5, s.2.2.1), (7, s.2.2.2.1), (9, .sl 3 (List.map S_api_Unit.enc x0)), (10, .int .i64 (List.length x0 : Int)), (11, .int .i64 s.2.2.2.2.1), (12, s.2.2.2.2.2.1), (23, s.2.2.2.2.2.2.1)]) (fun s => h ++ [.map (List.map (ent S_api_Unit.enc) s.2.2.2.2.2.2.2)]) (fun k s => (graph_units_l1 x0 k s.2.2.2.2.1 s.2.2.2.2.2.2.2).post K104 X) (fun s hs => hs) (fun k123 s hq N hN106 => ?_) _ (_, _, _, _, 0, _, _, []) hq
    obtain ⟨y0_87, y2_87, y5_87, y7_87, x11_87, y12_87, y23_87, o0_0_87⟩ := s
    try dsimp only at hq ⊢
    rw [graph_units_l1] at hq
    rw [wp_seq]
    rw [wp_region]
    simp only [RC, RL, RM, ↓evs_eq, loadN, V.slz, V.slz1, lnB, V.left, V.lenOf, slice3, sliceNil, Option.getD_none, sliceOp, cut, upon_each, buildOk, lookup, lookV, update, elemOf, Option.isSome_map, unOp, wanted, aop, tkB, neD, Env.get, Env.put, Env.keep, putD, dstOk, ev, constV, nilSlice, V.demote, V.toOwn, V.cells, ty, R1.res, binOp, isShift, binOpT, isC, intOp, strOp, shiftOp, byteV, index, indexAddr, slice, bounds, hiB, loB, withB, maxV, minV, evs, pickV, lenV, builtin, initEnv, convert, K.isU8, strOf, load, store, fieldOf, append, appT, fltOp, cpxV, realV, imagV, toInt, rangeOp, nextOp, room, fill, placeOf, splice, repl, chunks, Ty.val, Ty.agg, V.plain, H.row, H.ety, AObj.row, Nat.reduceAdd, ↓reduceIte, Nat.reduceEqDiff, Nat.reduceBEq, Nat.reduceBNe, Nat.reduceLT, Int.reduceToNat, Int.reduceEq, Int.reduceLT, Int.reduceLE, reduceCtorEq, Nat.reduceMul, Nat.reduceLeDiff, S_api_Unit.enc, S_graph_wrong.enc]
    rw [wp_seq]
    rw [wp_cond]
    simp only [RC, RL, RM, ↓evs_eq, loadN, V.slz, V.slz1, lnB, V.left, V.lenOf, slice3, sliceNil, Option.getD_none, sliceOp, cut, upon_each, buildOk, lookup, lookV, update, elemOf, Option.isSome_map, unOp, wanted, aop, tkB, neD, Env.get, Env.put, Env.keep, putD, dstOk, ev, constV, nilSlice, V.demote, V.toOwn, V.cells, ty, R1.res, binOp, isShift, binOpT, isC, intOp, strOp, shiftOp, byteV, index, indexAddr, slice, bounds, hiB, loB, withB, maxV, minV, evs, pickV, lenV, builtin, initEnv, convert, K.isU8, strOf, load, store, fieldOf, append, appT, fltOp, cpxV, realV, imagV, toInt, rangeOp, nextOp, room, fill, placeOf, splice, repl, chunks, Ty.val, Ty.agg, V.plain, H.row, H.ety, AObj.row, Nat.reduceAdd, ↓reduceIte, Nat.reduceEqDiff, Nat.reduceBEq, Nat.reduceBNe, Nat.reduceLT, Int.reduceToNat, Int.reduceEq, Int.reduceLT, Int.reduceLE, reduceCtorEq, Nat.reduceMul, Nat.reduceLeDiff, S_api_Unit.enc, S_graph_wrong.enc]
    by_cases hc107 : x11_87 < (List.length x0 : Int)
    · replace hq := (R.post_if hq).1 hc107
      refine condK_t (congrArg V.bool (decide_eq_true hc107)) ?_
      try simp only [wp_skip, RC]
      refine Wk.same ?_
      try simp only [RC]
      rw [wp_seq]
      rw [wp_block]
      rw [wp_seq]
      rw [wp_region]
      obtain ⟨g110, hq⟩ := R.guard hq
      have e111 := map_gt (f := S_api_Unit.enc) (l := x0) (i := x11_87) g110
      simp only [e111, RC, RL, RM, ↓evs_eq, loadN, V.slz, V.slz1, lnB, V.left, V.lenOf, slice3, sliceNil, Option.getD_none, sliceOp, cut, upon_each, buildOk, lookup, lookV, update, elemOf, Option.isSome_map, unOp, wanted, aop, tkB, neD, Env.get, Env.put, Env.keep, putD, dstOk, ev, constV, nilSlice, V.demote, V.toOwn, V.cells, ty, R1.res, binOp, isShift, binOpT, isC, intOp, strOp, shiftOp, byteV, index, indexAddr, slice, bounds, hiB, loB, withB, maxV, minV, evs, pickV, lenV, builtin, initEnv, convert, K.isU8, strOf, load, store, fieldOf, append, appT, fltOp, cpxV, realV, imagV, toInt, rangeOp, nextOp, room, fill, placeOf, splice, repl, chunks, Ty.val, Ty.agg, V.plain, H.row, H.ety, AObj.row, Nat.reduceAdd, ↓reduceIte, Nat.reduceEqDiff, Nat.reduceBEq, Nat.reduceBNe, Nat.reduceLT, Int.reduceToNat, Int.reduceEq, Int.reduceLT, Int.reduceLE, reduceCtorEq, Nat.reduceMul, Nat.reduceLeDiff, S_api_Unit.enc, S_graph_wrong.enc]
      repeat (with_reducible refine And.intro (by first | omega | assumption) ?_)
      rw [wp_seq]
      rw [wp_region]
      have e116 : textKeys (List.map (ent S_api_Unit.enc) o0_0_87) = true := textKeys_map o0_0_87
      have e115 : mapGet ((gt x0 x11_87).Path) (List.map (ent S_api_Unit.enc) o0_0_87) = Option.map S_api_Unit.enc (mget ((gt x0 x11_87).Path) o0_0_87) := mapGet_map o0_0_87
      have e117 : Option.getD (Option.map S_api_Unit.enc (mget ((gt x0 x11_87).Path) o0_0_87)) (.agg [.str [], .sl 1 [], .sl 1 []]) = .agg [.str (Option.getD (mget ((gt x0 x11_87).Path) o0_0_87) (S_api_Unit.mk [] [] [])).Path, .sl 1 (List.map V.str (Option.getD (mget ((gt x0 x11_87).Path) o0_0_87) (S_api_Unit.mk [] [] [])).Deps), .sl 1 (List.map (V.int .i64) (Option.getD (mget ((gt x0 x11_87).Path) o0_0_87) (S_api_Unit.mk [] [] [])).Public)] := by cases mget ((gt x0 x11_87).Path) o0_0_87 <;> rfl
      simp only [e116, e115, e117, RC, RL, RM, ↓evs_eq, loadN, V.slz, V.slz1, lnB, V.left, V.lenOf, slice3, sliceNil, Option.getD_none, sliceOp, cut, upon_each, buildOk, lookup, lookV, update, elemOf, Option.isSome_map, unOp, wanted, aop, tkB, neD, Env.get, Env.put, Env.keep, putD, dstOk, ev, constV, nilSlice, V.demote, V.toOwn, V.cells, ty, R1.res, binOp, isShift, binOpT, isC, intOp, strOp, shiftOp, byteV, index, indexAddr, slice, bounds, hiB, loB, withB, maxV, minV, evs, pickV, lenV, builtin, initEnv, convert, K.isU8, strOf, load, store, fieldOf, append, appT, fltOp, cpxV, realV, imagV, toInt, rangeOp, nextOp, room, fill, placeOf, splice, repl, chunks, Ty.val, Ty.agg, V.plain, H.row, H.ety, AObj.row, Nat.reduceAdd, ↓reduceIte, Nat.reduceEqDiff, Nat.reduceBEq, Nat.reduceBNe, Nat.reduceLT, Int.reduceToNat, Int.reduceEq, Int.reduceLT, Int.reduceLE, reduceCtorEq, Nat.reduceMul, Nat.reduceLeDiff, S_api_Unit.enc, S_graph_wrong.enc]
      rw [wp_seq]
      rw [wp_region]
      simp only [RC, RL, RM, ↓evs_eq, loadN, V.slz, V.slz1, lnB, V.left, V.lenOf, slice3, sliceNil, Option.getD_none, sliceOp, cut, upon_each, buildOk, lookup, lookV, update, elemOf, Option.isSome_map, unOp, wanted, aop, tkB, neD, Env.get, Env.put, Env.keep, putD, dstOk, ev, constV, nilSlice, V.demote, V.toOwn, V.cells, ty, R1.res, binOp, isShift, binOpT, isC, intOp, strOp, shiftOp, byteV, index, indexAddr, slice, bounds, hiB, loB, withB, maxV, minV, evs, pickV, lenV, builtin, initEnv, convert, K.isU8, strOf, load, store, fieldOf, append, appT, fltOp, cpxV, realV, imagV, toInt, rangeOp, nextOp, room, fill, placeOf, splice, repl, chunks, Ty.val, Ty.agg, V.plain, H.row, H.ety, AObj.row, Nat.reduceAdd, ↓reduceIte, Nat.reduceEqDiff, Nat.reduceBEq, Nat.reduceBNe, Nat.reduceLT, Int.reduceToNat, Int.reduceEq, Int.reduceLT, Int.reduceLE, reduceCtorEq, Nat.reduceMul, Nat.reduceLeDiff, S_api_Unit.enc, S_graph_wrong.enc]
      rw [wp_cond]
      simp only [RC, RL, RM, ↓evs_eq, loadN, V.slz, V.slz1, lnB, V.left, V.lenOf, slice3, sliceNil, Option.getD_none, sliceOp, cut, upon_each, buildOk, lookup, lookV, update, elemOf, Option.isSome_map, unOp, wanted, aop, tkB, neD, Env.get, Env.put, Env.keep, putD, dstOk, ev, constV, nilSlice, V.demote, V.toOwn, V.cells, ty, R1.res, binOp, isShift, binOpT, isC, intOp, strOp, shiftOp, byteV, index, indexAddr, slice, bounds, hiB, loB, withB, maxV, minV, evs, pickV, lenV, builtin, initEnv, convert, K.isU8, strOf, load, store, fieldOf, append, appT, fltOp, cpxV, realV, imagV, toInt, rangeOp, nextOp, room, fill, placeOf, splice, repl, chunks, Ty.val, Ty.agg, V.plain, H.row, H.ety, AObj.row, Nat.reduceAdd, ↓reduceIte, Nat.reduceEqDiff, Nat.reduceBEq, Nat.reduceBNe, Nat.reduceLT, Int.reduceToNat, Int.reduceEq, Int.reduceLT, Int.reduceLE, reduceCtorEq, Nat.reduceMul, Nat.reduceLeDiff, S_api_Unit.enc, S_graph_wrong.enc]
      by_cases hc118 : (Option.isSome (mget ((gt x0 x11_87).Path) o0_0_87)) = true
      · replace hq := (R.post_if hq).1 hc118
        refine condK_f (congrArg (fun b => V.bool (!b)) (hc118)) ?_
        try simp only [wp_skip, RC]
        refine Wk.same ?_
        try simp only [RC]
        refine Wk.drop [.map (List.map (ent S_api_Unit.enc) o0_0_87)] _ [.cells 39 [.str (gt x0 x11_87).Path, .sl 1 (List.map V.str (gt x0 x11_87).Deps), .sl 1 (List.map (V.int .i64) (gt x0 x11_87).Public)], .cells 39 [.str (Option.getD (mget ((gt x0 x11_87).Path) o0_0_87) (S_api_Unit.mk [] [] [])).Path, .sl 1 (List.map V.str (Option.getD (mget ((gt x0 x11_87).Path) o0_0_87) (S_api_Unit.mk [] [] [])).Deps), .sl 1 (List.map (V.int .i64) (Option.getD (mget ((gt x0 x11_87).Path) o0_0_87) (S_api_Unit.mk [] [] [])).Public)]] rfl rfl (EnvLe.cons (.top _) (EnvLe.cons (.top _) (EnvLe.cons (.refl _) (EnvLe.cons (.top _) (EnvLe.cons (.top _) (EnvLe.cons (.refl _) (EnvLe.cons (.refl _) (EnvLe.cons (.refl _) (EnvLe.cons (.top _) (EnvLe.cons (.top _) EnvLe.nil)))))))))) (EnvCl.cons .top (EnvCl.cons .top (EnvCl.cons (.map _ (by first | omega | (simp only [List.length_append, List.length_cons, List.length_nil, List.length_set]; omega))) (EnvCl.cons .top (EnvCl.cons .top (EnvCl.cons (.sl _ _ (cl_map (S_api_Unit.cl _))) (EnvCl.cons (.int _ _) (EnvCl.cons (.int _ _) (EnvCl.cons .top (EnvCl.cons .top (EnvCl.nil _))))))))))) (objcl_cons (cl_mapl (S_api_Unit.cl _)) objcl_nil) ?_
        try simp only [RC]
        rw [wp_region]
        simp only [RC, RL, RM, ↓evs_eq, loadN, V.slz, V.slz1, lnB, V.left, V.lenOf, slice3, sliceNil, Option.getD_none, sliceOp, cut, upon_each, buildOk, lookup, lookV, update, elemOf, Option.isSome_map, unOp, wanted, aop, tkB, neD, Env.get, Env.put, Env.keep, putD, dstOk, ev, constV, nilSlice, V.demote, V.toOwn, V.cells, ty, R1.res, binOp, isShift, binOpT, isC, intOp, strOp, shiftOp, byteV, index, indexAddr, slice, bounds, hiB, loB, withB, maxV, minV, evs, pickV, lenV, builtin, initEnv, convert, K.isU8, strOf, load, store, fieldOf, append, appT, fltOp, cpxV, realV, imagV, toInt, rangeOp, nextOp, room, fill, placeOf, splice, repl, chunks, Ty.val, Ty.agg, V.plain, H.row, H.ety, AObj.row, Nat.reduceAdd, ↓reduceIte, Nat.reduceEqDiff, Nat.reduceBEq, Nat.reduceBNe, Nat.reduceLT, Int.reduceToNat, Int.reduceEq, Int.reduceLT, Int.reduceLE, reduceCtorEq, Nat.reduceMul, Nat.reduceLeDiff, S_api_Unit.enc, S_graph_wrong.enc]
        refine Wk.same ?_
        exact hN106 (_, _, _, _, (IntKind.wrap .i64 (x11_87 + 1)), _, _, o0_0_87) hq
      · replace hq := (R.post_if hq).2 hc118
        replace hc118 := eq_false_of_ne_true hc118
        refine condK_t (congrArg (fun b => V.bool (!b)) (hc118)) ?_
        rw [wp_region]
        have e122 : textKeys (List.map (ent S_api_Unit.enc) o0_0_87) = true := textKeys_map o0_0_87
        have e121 : mapSet ((gt x0 x11_87).Path) (.agg [.str (gt x0 x11_87).Path, .sl 1 (List.map V.str (gt x0 x11_87).Deps), .sl 1 (List.map (V.int .i64) (gt x0 x11_87).Public)]) (List.map (ent S_api_Unit.enc) o0_0_87) = (List.map (ent S_api_Unit.enc) (mset ((gt x0 x11_87).Path) (gt x0 x11_87) o0_0_87)) := mapSet_map (f := S_api_Unit.enc) (gt x0 x11_87) o0_0_87
        simp only [e122, e121, RC, RL, RM, ↓evs_eq, loadN, V.slz, V.slz1, lnB, V.left, V.lenOf, slice3, sliceNil, Option.getD_none, sliceOp, cut, upon_each, buildOk, lookup, lookV, update, elemOf, Option.isSome_map, unOp, wanted, aop, tkB, neD, Env.get, Env.put, Env.keep, putD, dstOk, ev, constV, nilSlice, V.demote, V.toOwn, V.cells, ty, R1.res, binOp, isShift, binOpT, isC, intOp, strOp, shiftOp, byteV, index, indexAddr, slice, bounds, hiB, loB, withB, maxV, minV, evs, pickV, lenV, builtin, initEnv, convert, K.isU8, strOf, load, store, fieldOf, append, appT, fltOp, cpxV, realV, imagV, toInt, rangeOp, nextOp, room, fill, placeOf, splice, repl, chunks, Ty.val, Ty.agg, V.plain, H.row, H.ety, AObj.row, Nat.reduceAdd, ↓reduceIte, Nat.reduceEqDiff, Nat.reduceBEq, Nat.reduceBNe, Nat.reduceLT, Int.reduceToNat, Int.reduceEq, Int.reduceLT, Int.reduceLE, reduceCtorEq, Nat.reduceMul, Nat.reduceLeDiff, S_api_Unit.enc, S_graph_wrong.enc]
        refine Wk.same ?_
        try simp only [RC]
        refine Wk.drop [.map (List.map (ent S_api_Unit.enc) (mset ((gt x0 x11_87).Path) (gt x0 x11_87) o0_0_87))] _ [.cells 39 [.str (gt x0 x11_87).Path, .sl 1 (List.map V.str (gt x0 x11_87).Deps), .sl 1 (List.map (V.int .i64) (gt x0 x11_87).Public)], .cells 39 [.str (Option.getD (mget ((gt x0 x11_87).Path) o0_0_87) (S_api_Unit.mk [] [] [])).Path, .sl 1 (List.map V.str (Option.getD (mget ((gt x0 x11_87).Path) o0_0_87) (S_api_Unit.mk [] [] [])).Deps), .sl 1 (List.map (V.int .i64) (Option.getD (mget ((gt x0 x11_87).Path) o0_0_87) (S_api_Unit.mk [] [] [])).Public)]] rfl rfl (EnvLe.cons (.top _) (EnvLe.cons (.top _) (EnvLe.cons (.refl _) (EnvLe.cons (.top _) (EnvLe.cons (.top _) (EnvLe.cons (.refl _) (EnvLe.cons (.refl _) (EnvLe.cons (.refl _) (EnvLe.cons (.top _) (EnvLe.cons (.top _) EnvLe.nil)))))))))) (EnvCl.cons .top (EnvCl.cons .top (EnvCl.cons (.map _ (by first | omega | (simp only [List.length_append, List.length_cons, List.length_nil, List.length_set]; omega))) (EnvCl.cons .top (EnvCl.cons .top (EnvCl.cons (.sl _ _ (cl_map (S_api_Unit.cl _))) (EnvCl.cons (.int _ _) (EnvCl.cons (.int _ _) (EnvCl.cons .top (EnvCl.cons .top (EnvCl.nil _))))))))))) (objcl_cons (cl_mapl (S_api_Unit.cl _)) objcl_nil) ?_
        try simp only [RC]
        rw [wp_region]
        simp only [RC, RL, RM, ↓evs_eq, loadN, V.slz, V.slz1, lnB, V.left, V.lenOf, slice3, sliceNil, Option.getD_none, sliceOp, cut, upon_each, buildOk, lookup, lookV, update, elemOf, Option.isSome_map, unOp, wanted, aop, tkB, neD, Env.get, Env.put, Env.keep, putD, dstOk, ev, constV, nilSlice, V.demote, V.toOwn, V.cells, ty, R1.res, binOp, isShift, binOpT, isC, intOp, strOp, shiftOp, byteV, index, indexAddr, slice, bounds, hiB, loB, withB, maxV, minV, evs, pickV, lenV, builtin, initEnv, convert, K.isU8, strOf, load, store, fieldOf, append, appT, fltOp, cpxV, realV, imagV, toInt, rangeOp, nextOp, room, fill, placeOf, splice, repl, chunks, Ty.val, Ty.agg, V.plain, H.row, H.ety, AObj.row, Nat.reduceAdd, ↓reduceIte, Nat.reduceEqDiff, Nat.reduceBEq, Nat.reduceBNe, Nat.reduceLT, Int.reduceToNat, Int.reduceEq, Int.reduceLT, Int.reduceLE, reduceCtorEq, Nat.reduceMul, Nat.reduceLeDiff, S_api_Unit.enc, S_graph_wrong.enc]
        refine Wk.same ?_
        exact hN106 (_, _, _, _, (IntKind.wrap .i64 (x11_87 + 1)), _, _, (mset ((gt x0 x11_87).Path) (gt x0 x11_87) o0_0_87)) hq
    · replace hq := (R.post_if hq).2 hc107
      refine condK_f (congrArg V.bool (decide_eq_false hc107)) ?_
      rw [wp_exit]
      try simp only [↓reduceIte, Nat.reduceEqDiff, reduceCtorEq, if_false, if_true, eq_self, Nat.succ_ne_self, RC]
      replace hq := hK105 _ hq
      try dsimp only at hq
      refine Wk.le (EnvLe.cons (.refl _) (EnvLe.cons (.refl _) (EnvLe.cons (.refl _) (EnvLe.cons (.refl _) (EnvLe.cons (.refl _) (EnvLe.cons (.top _) (EnvLe.cons (.top _) (EnvLe.cons (.top _) (EnvLe.cons (.top _) (EnvLe.cons (.refl _) EnvLe.nil)))))))))) ?_
      try simp only [RC]
      exact hN69 (_, _, _, _, _, _, _, _, _, o0_0_87) hq

def graph_twice_j0 (o0_0_71 : List (List UInt8 × Int)) : R (Bool) :=
  R.ok false
def graph_twice_l1 (x0 : List (List UInt8)) : Nat → Int → (List (List UInt8 × Int)) → R (((List (List UInt8 × Int))) ⊕ (Bool))
  | 0, _, _ => R.stuck
  | k + 1, x9_96, o0_0_96 => if x9_96 < (List.length x0 : Int) then (if 0 ≤ x9_96 ∧ x9_96 < (List.length x0 : Int) then (if (1 : Int) < (Option.getD (mget (gt x0 x9_96) (mset (gt x0 x9_96) (IntKind.wrap .i64 ((Option.getD (mget (gt x0 x9_96) o0_0_96) 0) + 1)) o0_0_96)) 0) then (R.ok (.inr true)) else (graph_twice_l1 x0 k (IntKind.wrap .i64 (x9_96 + 1)) (mset (gt x0 x9_96) (IntKind.wrap .i64 ((Option.getD (mget (gt x0 x9_96) o0_0_96) 0) + 1)) o0_0_96))) else R.stuck) else (R.ok (.inl o0_0_96))
def graph_twice (x0 : List (List UInt8)) : R (Bool) :=
  (graph_twice_l1 x0 Many 0 []).bind fun | (.inl o0_0p145) => graph_twice_j0 o0_0p145 | (.inr rp146) => R.ok rp146
theorem graph_twice_call {h : H} {x0 : List (List UInt8)} {Q : Out → H → Prop} {KK : (Bool) → Prop} {X : V → Prop} (hq : (graph_twice x0).post KK X) (hK : ∀ r, KK r → Q (.ret (.bool r)) h) (hX : ∀ v, X v → V.Cl 0 v ∧ Q (.panic v) h) : CA qprim 26 [.sl 1 (List.map V.str x0)] h Q := by
  refine acalln hp Try.func26 rfl (by kernel_rfl) (n := 22) rfl (rs := [.tmp 2]) rfl [0, 2, 3, 5, 7, 8, 9, 10, 20] [] true (by simp) ?_
  unfold graph_twice at hq
  simp only [initEnv, List.map_cons, List.map_nil, List.getD_cons_zero, List.getD_cons_succ, List.getD_nil, V.demote]
  rw [wp_seq]
  rw [wp_region]
  simp only [RC, RL, RM, ↓evs_eq, loadN, V.slz, V.slz1, lnB, V.left, V.lenOf, slice3, sliceNil, Option.getD_none, sliceOp, cut, upon_each, buildOk, lookup, lookV, update, elemOf, Option.isSome_map, unOp, wanted, aop, tkB, neD, Env.get, Env.put, Env.keep, putD, dstOk, ev, constV, nilSlice, V.demote, V.toOwn, V.cells, ty, R1.res, binOp, isShift, binOpT, isC, intOp, strOp, shiftOp, byteV, index, indexAddr, slice, bounds, hiB, loB, withB, maxV, minV, evs, pickV, lenV, builtin, initEnv, convert, K.isU8, strOf, load, store, fieldOf, append, appT, fltOp, cpxV, realV, imagV, toInt, rangeOp, nextOp, room, fill, placeOf, splice, repl, chunks, Ty.val, Ty.agg, V.plain, H.row, H.ety, AObj.row, Nat.reduceAdd, ↓reduceIte, Nat.reduceEqDiff, Nat.reduceBEq, Nat.reduceBNe, Nat.reduceLT, Int.reduceToNat, Int.reduceEq, Int.reduceLT, Int.reduceLE, reduceCtorEq, Nat.reduceMul, Nat.reduceLeDiff, S_api_Unit.enc, S_graph_wrong.enc]
  rw [wp_seq]
  rw [wp_region]
  simp only [RC, RL, RM, ↓evs_eq, loadN, V.slz, V.slz1, lnB, V.left, V.lenOf, slice3, sliceNil, Option.getD_none, sliceOp, cut, upon_each, buildOk, lookup, lookV, update, elemOf, Option.isSome_map, unOp, wanted, aop, tkB, neD, Env.get, Env.put, Env.keep, putD, dstOk, ev, constV, nilSlice, V.demote, V.toOwn, V.cells, ty, R1.res, binOp, isShift, binOpT, isC, intOp, strOp, shiftOp, byteV, index, indexAddr, slice, bounds, hiB, loB, withB, maxV, minV, evs, pickV, lenV, builtin, initEnv, convert, K.isU8, strOf, load, store, fieldOf, append, appT, fltOp, cpxV, realV, imagV, toInt, rangeOp, nextOp, room, fill, placeOf, splice, repl, chunks, Ty.val, Ty.agg, V.plain, H.row, H.ety, AObj.row, Nat.reduceAdd, ↓reduceIte, Nat.reduceEqDiff, Nat.reduceBEq, Nat.reduceBNe, Nat.reduceLT, Int.reduceToNat, Int.reduceEq, Int.reduceLT, Int.reduceLE, reduceCtorEq, Nat.reduceMul, Nat.reduceLeDiff, S_api_Unit.enc, S_graph_wrong.enc]
  refine seq_gen (acall_mono hp) (σ := V × V × V × V × V × V × V × (List (List UInt8 × Int))) (fun s => [(0, .sl 1 (List.map V.str x0)), (2, s.1), (3, .map h.length), (5, s.2.1), (7, s.2.2.1), (8, s.2.2.2.1), (9, s.2.2.2.2.1), (10, s.2.2.2.2.2.1), (20, s.2.2.2.2.2.2.1)]) (fun s => h ++ [.map (List.map (ent (V.int .i64)) s.2.2.2.2.2.2.2)]) (fun s => (graph_twice_j0 s.2.2.2.2.2.2.2).post KK X) (fun s hq => ?_) (fun N hN72 => ?_)
  · obtain ⟨y2_71, y5_71, y7_71, y8_71, y9_71, y10_71, y20_71, o0_0_71⟩ := s
    try dsimp only at hq ⊢
    unfold graph_twice_j0 at hq
    rw [wp_seq]
    rw [wp_region]
    simp only [RC, RL, RM, ↓evs_eq, loadN, V.slz, V.slz1, lnB, V.left, V.lenOf, slice3, sliceNil, Option.getD_none, sliceOp, cut, upon_each, buildOk, lookup, lookV, update, elemOf, Option.isSome_map, unOp, wanted, aop, tkB, neD, Env.get, Env.put, Env.keep, putD, dstOk, ev, constV, nilSlice, V.demote, V.toOwn, V.cells, ty, R1.res, binOp, isShift, binOpT, isC, intOp, strOp, shiftOp, byteV, index, indexAddr, slice, bounds, hiB, loB, withB, maxV, minV, evs, pickV, lenV, builtin, initEnv, convert, K.isU8, strOf, load, store, fieldOf, append, appT, fltOp, cpxV, realV, imagV, toInt, rangeOp, nextOp, room, fill, placeOf, splice, repl, chunks, Ty.val, Ty.agg, V.plain, H.row, H.ety, AObj.row, Nat.reduceAdd, ↓reduceIte, Nat.reduceEqDiff, Nat.reduceBEq, Nat.reduceBNe, Nat.reduceLT, Int.reduceToNat, Int.reduceEq, Int.reduceLT, Int.reduceLE, reduceCtorEq, Nat.reduceMul, Nat.reduceLeDiff, S_api_Unit.enc, S_graph_wrong.enc]
    rw [wp_ret]
    simp only [retQ, results, resultAll, resultOne, Nat.zero_add, scopeQ, RC, RL, RM, ↓evs_eq, loadN, V.slz, V.slz1, lnB, V.left, V.lenOf, slice3, sliceNil, Option.getD_none, sliceOp, cut, upon_each, buildOk, lookup, lookV, update, elemOf, Option.isSome_map, unOp, wanted, aop, tkB, neD, Env.get, Env.put, Env.keep, putD, dstOk, ev, constV, nilSlice, V.demote, V.toOwn, V.cells, ty, R1.res, binOp, isShift, binOpT, isC, intOp, strOp, shiftOp, byteV, index, indexAddr, slice, bounds, hiB, loB, withB, maxV, minV, evs, pickV, lenV, builtin, initEnv, convert, K.isU8, strOf, load, store, fieldOf, append, appT, fltOp, cpxV, realV, imagV, toInt, rangeOp, nextOp, room, fill, placeOf, splice, repl, chunks, Ty.val, Ty.agg, V.plain, H.row, H.ety, AObj.row, Nat.reduceAdd, ↓reduceIte, Nat.reduceEqDiff, Nat.reduceBEq, Nat.reduceBNe, Nat.reduceLT, Int.reduceToNat, Int.reduceEq, Int.reduceLT, Int.reduceLE, reduceCtorEq, Nat.reduceMul, Nat.reduceLeDiff, S_api_Unit.enc, S_graph_wrong.enc]
    refine ⟨_, (.refl _), ?_⟩
    refine leave_ok rfl (.bool _) ?_
    exact hK _ hq
  · rw [wp_seq]
    rw [wp_region]
    simp only [RC, RL, RM, ↓evs_eq, loadN, V.slz, V.slz1, lnB, V.left, V.lenOf, slice3, sliceNil, Option.getD_none, sliceOp, cut, upon_each, buildOk, lookup, lookV, update, elemOf, Option.isSome_map, unOp, wanted, aop, tkB, neD, Env.get, Env.put, Env.keep, putD, dstOk, ev, constV, nilSlice, V.demote, V.toOwn, V.cells, ty, R1.res, binOp, isShift, binOpT, isC, intOp, strOp, shiftOp, byteV, index, indexAddr, slice, bounds, hiB, loB, withB, maxV, minV, evs, pickV, lenV, builtin, initEnv, convert, K.isU8, strOf, load, store, fieldOf, append, appT, fltOp, cpxV, realV, imagV, toInt, rangeOp, nextOp, room, fill, placeOf, splice, repl, chunks, Ty.val, Ty.agg, V.plain, H.row, H.ety, AObj.row, Nat.reduceAdd, ↓reduceIte, Nat.reduceEqDiff, Nat.reduceBEq, Nat.reduceBNe, Nat.reduceLT, Int.reduceToNat, Int.reduceEq, Int.reduceLT, Int.reduceLE, reduceCtorEq, Nat.reduceMul, Nat.reduceLeDiff, S_api_Unit.enc, S_graph_wrong.enc]
    rw [wp_block]
    refine loop_in ?_
    refine Wk.le (EnvLe.cons (.refl _) (EnvLe.cons (.top _) (EnvLe.cons (.refl _) (EnvLe.cons (.refl _) (EnvLe.cons (.refl _) (EnvLe.cons (.refl _) (EnvLe.cons (.refl _) (EnvLe.cons (.refl _) (EnvLe.cons (.refl _) EnvLe.nil))))))))) ?_
    obtain ⟨K119, hK120, hq⟩ := R.post_cut hq
    refine loop_gen (acall_mono hp) (σ := V × V × Int × V × V × (List (List UInt8 × Int))) (fun s => [(0, .sl 1 (List.map V.str x0)), (2, s.1), (3, .map h.length), (5, s.2.1), (7, .sl 1 (List.map V.str x0)), (8, .int .i64 (List.length x0 : Int)), (9, .int .i64 s.2.2.1), (10, s.2.2.2.1), (20, s.2.2.2.2.1)]) (fun s => h ++ [.map (List.map (ent (V.int .i64)) s.2.2.2.2.2)]) (fun k s => (graph_twice_l1 x0 k s.2.2.1 s.2.2.2.2.2).post K119 X) (fun s hs => hs) (fun k144 s hq N hN121 => ?_) _ (_, _, 0, _, _, []) hq
    obtain ⟨y2_96, y5_96, x9_96, y10_96, y20_96, o0_0_96⟩ := s
    try dsimp only at hq ⊢
    rw [graph_twice_l1] at hq
    rw [wp_seq]
    rw [wp_region]
    simp only [RC, RL, RM, ↓evs_eq, loadN, V.slz, V.slz1, lnB, V.left, V.lenOf, slice3, sliceNil, Option.getD_none, sliceOp, cut, upon_each, buildOk, lookup, lookV, update, elemOf, Option.isSome_map, unOp, wanted, aop, tkB, neD, Env.get, Env.put, Env.keep, putD, dstOk, ev, constV, nilSlice, V.demote, V.toOwn, V.cells, ty, R1.res, binOp, isShift, binOpT, isC, intOp, strOp, shiftOp, byteV, index, indexAddr, slice, bounds, hiB, loB, withB, maxV, minV, evs, pickV, lenV, builtin, initEnv, convert, K.isU8, strOf, load, store, fieldOf, append, appT, fltOp, cpxV, realV, imagV, toInt, rangeOp, nextOp, room, fill, placeOf, splice, repl, chunks, Ty.val, Ty.agg, V.plain, H.row, H.ety, AObj.row, Nat.reduceAdd, ↓reduceIte, Nat.reduceEqDiff, Nat.reduceBEq, Nat.reduceBNe, Nat.reduceLT, Int.reduceToNat, Int.reduceEq, Int.reduceLT, Int.reduceLE, reduceCtorEq, Nat.reduceMul, Nat.reduceLeDiff, S_api_Unit.enc, S_graph_wrong.enc]
    rw [wp_seq]
    rw [wp_cond]
    simp only [RC, RL, RM, ↓evs_eq, loadN, V.slz, V.slz1, lnB, V.left, V.lenOf, slice3, sliceNil, Option.getD_none, sliceOp, cut, upon_each, buildOk, lookup, lookV, update, elemOf, Option.isSome_map, unOp, wanted, aop, tkB, neD, Env.get, Env.put, Env.keep, putD, dstOk, ev, constV, nilSlice, V.demote, V.toOwn, V.cells, ty, R1.res, binOp, isShift, binOpT, isC, intOp, strOp, shiftOp, byteV, index, indexAddr, slice, bounds, hiB, loB, withB, maxV, minV, evs, pickV, lenV, builtin, initEnv, convert, K.isU8, strOf, load, store, fieldOf, append, appT, fltOp, cpxV, realV, imagV, toInt, rangeOp, nextOp, room, fill, placeOf, splice, repl, chunks, Ty.val, Ty.agg, V.plain, H.row, H.ety, AObj.row, Nat.reduceAdd, ↓reduceIte, Nat.reduceEqDiff, Nat.reduceBEq, Nat.reduceBNe, Nat.reduceLT, Int.reduceToNat, Int.reduceEq, Int.reduceLT, Int.reduceLE, reduceCtorEq, Nat.reduceMul, Nat.reduceLeDiff, S_api_Unit.enc, S_graph_wrong.enc]
    by_cases hc122 : x9_96 < (List.length x0 : Int)
    · replace hq := (R.post_if hq).1 hc122
      refine condK_t (congrArg V.bool (decide_eq_true hc122)) ?_
      try simp only [wp_skip, RC]
      refine Wk.same ?_
      try simp only [RC]
      rw [wp_seq]
      rw [wp_block]
      rw [wp_seq]
      rw [wp_region]
      obtain ⟨g125, hq⟩ := R.guard hq
      have e126 := map_gt (f := V.str) (l := x0) (i := x9_96) g125
      simp only [e126, RC, RL, RM, ↓evs_eq, loadN, V.slz, V.slz1, lnB, V.left, V.lenOf, slice3, sliceNil, Option.getD_none, sliceOp, cut, upon_each, buildOk, lookup, lookV, update, elemOf, Option.isSome_map, unOp, wanted, aop, tkB, neD, Env.get, Env.put, Env.keep, putD, dstOk, ev, constV, nilSlice, V.demote, V.toOwn, V.cells, ty, R1.res, binOp, isShift, binOpT, isC, intOp, strOp, shiftOp, byteV, index, indexAddr, slice, bounds, hiB, loB, withB, maxV, minV, evs, pickV, lenV, builtin, initEnv, convert, K.isU8, strOf, load, store, fieldOf, append, appT, fltOp, cpxV, realV, imagV, toInt, rangeOp, nextOp, room, fill, placeOf, splice, repl, chunks, Ty.val, Ty.agg, V.plain, H.row, H.ety, AObj.row, Nat.reduceAdd, ↓reduceIte, Nat.reduceEqDiff, Nat.reduceBEq, Nat.reduceBNe, Nat.reduceLT, Int.reduceToNat, Int.reduceEq, Int.reduceLT, Int.reduceLE, reduceCtorEq, Nat.reduceMul, Nat.reduceLeDiff, S_api_Unit.enc, S_graph_wrong.enc]
      repeat (with_reducible refine And.intro (by first | omega | assumption) ?_)
      rw [wp_seq]
      rw [wp_region]
      have e133 : textKeys (List.map (ent (V.int .i64)) o0_0_96) = true := textKeys_map o0_0_96
      have e132 : mapGet (gt x0 x9_96) (List.map (ent (V.int .i64)) o0_0_96) = Option.map (V.int .i64) (mget (gt x0 x9_96) o0_0_96) := mapGet_map o0_0_96
      have e134 : Option.getD (Option.map (V.int .i64) (mget (gt x0 x9_96) o0_0_96)) (.int .i64 0) = .int .i64 (Option.getD (mget (gt x0 x9_96) o0_0_96) 0) := by cases mget (gt x0 x9_96) o0_0_96 <;> rfl
      have e136 : textKeys (List.map (ent (V.int .i64)) o0_0_96) = true := textKeys_map o0_0_96
      have e135 : mapSet (gt x0 x9_96) (.int .i64 (IntKind.wrap .i64 ((Option.getD (mget (gt x0 x9_96) o0_0_96) 0) + 1))) (List.map (ent (V.int .i64)) o0_0_96) = (List.map (ent (V.int .i64)) (mset (gt x0 x9_96) (IntKind.wrap .i64 ((Option.getD (mget (gt x0 x9_96) o0_0_96) 0) + 1)) o0_0_96)) := mapSet_map (f := (V.int .i64)) (IntKind.wrap .i64 ((Option.getD (mget (gt x0 x9_96) o0_0_96) 0) + 1)) o0_0_96
      simp only [e133, e132, e134, e136, e135, RC, RL, RM, ↓evs_eq, loadN, V.slz, V.slz1, lnB, V.left, V.lenOf, slice3, sliceNil, Option.getD_none, sliceOp, cut, upon_each, buildOk, lookup, lookV, update, elemOf, Option.isSome_map, unOp, wanted, aop, tkB, neD, Env.get, Env.put, Env.keep, putD, dstOk, ev, constV, nilSlice, V.demote, V.toOwn, V.cells, ty, R1.res, binOp, isShift, binOpT, isC, intOp, strOp, shiftOp, byteV, index, indexAddr, slice, bounds, hiB, loB, withB, maxV, minV, evs, pickV, lenV, builtin, initEnv, convert, K.isU8, strOf, load, store, fieldOf, append, appT, fltOp, cpxV, realV, imagV, toInt, rangeOp, nextOp, room, fill, placeOf, splice, repl, chunks, Ty.val, Ty.agg, V.plain, H.row, H.ety, AObj.row, Nat.reduceAdd, ↓reduceIte, Nat.reduceEqDiff, Nat.reduceBEq, Nat.reduceBNe, Nat.reduceLT, Int.reduceToNat, Int.reduceEq, Int.reduceLT, Int.reduceLE, reduceCtorEq, Nat.reduceMul, Nat.reduceLeDiff, S_api_Unit.enc, S_graph_wrong.enc]
      rw [wp_seq]
      rw [wp_region]
      have e141 : textKeys (List.map (ent (V.int .i64)) (mset (gt x0 x9_96) (IntKind.wrap .i64 ((Option.getD (mget (gt x0 x9_96) o0_0_96) 0) + 1)) o0_0_96)) = true := textKeys_map (mset (gt x0 x9_96) (IntKind.wrap .i64 ((Option.getD (mget (gt x0 x9_96) o0_0_96) 0) + 1)) o0_0_96)
      have e140 : mapGet (gt x0 x9_96) (List.map (ent (V.int .i64)) (mset (gt x0 x9_96) (IntKind.wrap .i64 ((Option.getD (mget (gt x0 x9_96) o0_0_96) 0) + 1)) o0_0_96)) = Option.map (V.int .i64) (mget (gt x0 x9_96) (mset (gt x0 x9_96) (IntKind.wrap .i64 ((Option.getD (mget (gt x0 x9_96) o0_0_96) 0) + 1)) o0_0_96)) := mapGet_map (mset (gt x0 x9_96) (IntKind.wrap .i64 ((Option.getD (mget (gt x0 x9_96) o0_0_96) 0) + 1)) o0_0_96)
      have e142 : Option.getD (Option.map (V.int .i64) (mget (gt x0 x9_96) (mset (gt x0 x9_96) (IntKind.wrap .i64 ((Option.getD (mget (gt x0 x9_96) o0_0_96) 0) + 1)) o0_0_96))) (.int .i64 0) = .int .i64 (Option.getD (mget (gt x0 x9_96) (mset (gt x0 x9_96) (IntKind.wrap .i64 ((Option.getD (mget (gt x0 x9_96) o0_0_96) 0) + 1)) o0_0_96)) 0) := by cases mget (gt x0 x9_96) (mset (gt x0 x9_96) (IntKind.wrap .i64 ((Option.getD (mget (gt x0 x9_96) o0_0_96) 0) + 1)) o0_0_96) <;> rfl
      simp only [e141, e140, e142, RC, RL, RM, ↓evs_eq, loadN, V.slz, V.slz1, lnB, V.left, V.lenOf, slice3, sliceNil, Option.getD_none, sliceOp, cut, upon_each, buildOk, lookup, lookV, update, elemOf, Option.isSome_map, unOp, wanted, aop, tkB, neD, Env.get, Env.put, Env.keep, putD, dstOk, ev, constV, nilSlice, V.demote, V.toOwn, V.cells, ty, R1.res, binOp, isShift, binOpT, isC, intOp, strOp, shiftOp, byteV, index, indexAddr, slice, bounds, hiB, loB, withB, maxV, minV, evs, pickV, lenV, builtin, initEnv, convert, K.isU8, strOf, load, store, fieldOf, append, appT, fltOp, cpxV, realV, imagV, toInt, rangeOp, nextOp, room, fill, placeOf, splice, repl, chunks, Ty.val, Ty.agg, V.plain, H.row, H.ety, AObj.row, Nat.reduceAdd, ↓reduceIte, Nat.reduceEqDiff, Nat.reduceBEq, Nat.reduceBNe, Nat.reduceLT, Int.reduceToNat, Int.reduceEq, Int.reduceLT, Int.reduceLE, reduceCtorEq, Nat.reduceMul, Nat.reduceLeDiff, S_api_Unit.enc, S_graph_wrong.enc]
      rw [wp_cond]
      simp only [RC, RL, RM, ↓evs_eq, loadN, V.slz, V.slz1, lnB, V.left, V.lenOf, slice3, sliceNil, Option.getD_none, sliceOp, cut, upon_each, buildOk, lookup, lookV, update, elemOf, Option.isSome_map, unOp, wanted, aop, tkB, neD, Env.get, Env.put, Env.keep, putD, dstOk, ev, constV, nilSlice, V.demote, V.toOwn, V.cells, ty, R1.res, binOp, isShift, binOpT, isC, intOp, strOp, shiftOp, byteV, index, indexAddr, slice, bounds, hiB, loB, withB, maxV, minV, evs, pickV, lenV, builtin, initEnv, convert, K.isU8, strOf, load, store, fieldOf, append, appT, fltOp, cpxV, realV, imagV, toInt, rangeOp, nextOp, room, fill, placeOf, splice, repl, chunks, Ty.val, Ty.agg, V.plain, H.row, H.ety, AObj.row, Nat.reduceAdd, ↓reduceIte, Nat.reduceEqDiff, Nat.reduceBEq, Nat.reduceBNe, Nat.reduceLT, Int.reduceToNat, Int.reduceEq, Int.reduceLT, Int.reduceLE, reduceCtorEq, Nat.reduceMul, Nat.reduceLeDiff, S_api_Unit.enc, S_graph_wrong.enc]
      by_cases hc143 : (1 : Int) < (Option.getD (mget (gt x0 x9_96) (mset (gt x0 x9_96) (IntKind.wrap .i64 ((Option.getD (mget (gt x0 x9_96) o0_0_96) 0) + 1)) o0_0_96)) 0)
      · replace hq := (R.post_if hq).1 hc143
        refine condK_t (congrArg V.bool (decide_eq_true hc143)) ?_
        rw [wp_seq]
        rw [wp_region]
        simp only [RC, RL, RM, ↓evs_eq, loadN, V.slz, V.slz1, lnB, V.left, V.lenOf, slice3, sliceNil, Option.getD_none, sliceOp, cut, upon_each, buildOk, lookup, lookV, update, elemOf, Option.isSome_map, unOp, wanted, aop, tkB, neD, Env.get, Env.put, Env.keep, putD, dstOk, ev, constV, nilSlice, V.demote, V.toOwn, V.cells, ty, R1.res, binOp, isShift, binOpT, isC, intOp, strOp, shiftOp, byteV, index, indexAddr, slice, bounds, hiB, loB, withB, maxV, minV, evs, pickV, lenV, builtin, initEnv, convert, K.isU8, strOf, load, store, fieldOf, append, appT, fltOp, cpxV, realV, imagV, toInt, rangeOp, nextOp, room, fill, placeOf, splice, repl, chunks, Ty.val, Ty.agg, V.plain, H.row, H.ety, AObj.row, Nat.reduceAdd, ↓reduceIte, Nat.reduceEqDiff, Nat.reduceBEq, Nat.reduceBNe, Nat.reduceLT, Int.reduceToNat, Int.reduceEq, Int.reduceLT, Int.reduceLE, reduceCtorEq, Nat.reduceMul, Nat.reduceLeDiff, S_api_Unit.enc, S_graph_wrong.enc]
        rw [wp_ret]
        simp only [retQ, results, resultAll, resultOne, Nat.zero_add, scopeQ, RC, RL, RM, ↓evs_eq, loadN, V.slz, V.slz1, lnB, V.left, V.lenOf, slice3, sliceNil, Option.getD_none, sliceOp, cut, upon_each, buildOk, lookup, lookV, update, elemOf, Option.isSome_map, unOp, wanted, aop, tkB, neD, Env.get, Env.put, Env.keep, putD, dstOk, ev, constV, nilSlice, V.demote, V.toOwn, V.cells, ty, R1.res, binOp, isShift, binOpT, isC, intOp, strOp, shiftOp, byteV, index, indexAddr, slice, bounds, hiB, loB, withB, maxV, minV, evs, pickV, lenV, builtin, initEnv, convert, K.isU8, strOf, load, store, fieldOf, append, appT, fltOp, cpxV, realV, imagV, toInt, rangeOp, nextOp, room, fill, placeOf, splice, repl, chunks, Ty.val, Ty.agg, V.plain, H.row, H.ety, AObj.row, Nat.reduceAdd, ↓reduceIte, Nat.reduceEqDiff, Nat.reduceBEq, Nat.reduceBNe, Nat.reduceLT, Int.reduceToNat, Int.reduceEq, Int.reduceLT, Int.reduceLE, reduceCtorEq, Nat.reduceMul, Nat.reduceLeDiff, S_api_Unit.enc, S_graph_wrong.enc]
        refine ⟨_, (.refl _), ?_⟩
        refine leave_ok rfl (.bool _) ?_
        replace hq := hK120 _ hq
        exact hK _ hq
      · replace hq := (R.post_if hq).2 hc143
        refine condK_f (congrArg V.bool (decide_eq_false hc143)) ?_
        try simp only [wp_skip, RC]
        refine Wk.same ?_
        try simp only [RC]
        refine Wk.same ?_
        try simp only [RC]
        rw [wp_region]
        simp only [RC, RL, RM, ↓evs_eq, loadN, V.slz, V.slz1, lnB, V.left, V.lenOf, slice3, sliceNil, Option.getD_none, sliceOp, cut, upon_each, buildOk, lookup, lookV, update, elemOf, Option.isSome_map, unOp, wanted, aop, tkB, neD, Env.get, Env.put, Env.keep, putD, dstOk, ev, constV, nilSlice, V.demote, V.toOwn, V.cells, ty, R1.res, binOp, isShift, binOpT, isC, intOp, strOp, shiftOp, byteV, index, indexAddr, slice, bounds, hiB, loB, withB, maxV, minV, evs, pickV, lenV, builtin, initEnv, convert, K.isU8, strOf, load, store, fieldOf, append, appT, fltOp, cpxV, realV, imagV, toInt, rangeOp, nextOp, room, fill, placeOf, splice, repl, chunks, Ty.val, Ty.agg, V.plain, H.row, H.ety, AObj.row, Nat.reduceAdd, ↓reduceIte, Nat.reduceEqDiff, Nat.reduceBEq, Nat.reduceBNe, Nat.reduceLT, Int.reduceToNat, Int.reduceEq, Int.reduceLT, Int.reduceLE, reduceCtorEq, Nat.reduceMul, Nat.reduceLeDiff, S_api_Unit.enc, S_graph_wrong.enc]
        refine Wk.le (EnvLe.cons (.refl _) (EnvLe.cons (.refl _) (EnvLe.cons (.refl _) (EnvLe.cons (.top _) (EnvLe.cons (.refl _) (EnvLe.cons (.refl _) (EnvLe.cons (.refl _) (EnvLe.cons (.top _) (EnvLe.cons (.top _) EnvLe.nil))))))))) ?_
        exact hN121 (_, _, (IntKind.wrap .i64 (x9_96 + 1)), _, _, (mset (gt x0 x9_96) (IntKind.wrap .i64 ((Option.getD (mget (gt x0 x9_96) o0_0_96) 0) + 1)) o0_0_96)) hq
    · replace hq := (R.post_if hq).2 hc122
      refine condK_f (congrArg V.bool (decide_eq_false hc122)) ?_
      rw [wp_exit]
      try simp only [↓reduceIte, Nat.reduceEqDiff, reduceCtorEq, if_false, if_true, eq_self, Nat.succ_ne_self, RC]
      replace hq := hK120 _ hq
      try dsimp only at hq
      refine Wk.le (EnvLe.cons (.refl _) (EnvLe.cons (.refl _) (EnvLe.cons (.refl _) (EnvLe.cons (.refl _) (EnvLe.cons (.top _) (EnvLe.cons (.top _) (EnvLe.cons (.top _) (EnvLe.cons (.top _) (EnvLe.cons (.refl _) EnvLe.nil))))))))) ?_
      try simp only [RC]
      exact hN72 (_, _, _, _, _, _, _, o0_0_96) hq
end Go.Proofs.Ytmaabgkgjknhpaa.Pv
