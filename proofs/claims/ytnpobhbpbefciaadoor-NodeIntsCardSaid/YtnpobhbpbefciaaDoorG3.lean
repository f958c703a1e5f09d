/- Functions of the program, as plain Lean functions, and that the code comes to them: printed by gen.py. -/
import Derived.Test.YtnpobhbpbefciaaDoorG0
set_option linter.unusedVariables false
set_option linter.unusedSimpArgs false
set_option maxHeartbeats 4000000
set_option maxRecDepth 10000
namespace Go.Proofs.YtnpobhbpbefciaaDoor.Pv
open Go Go.Proofs

def glossaryref07_deep_j0 (x5_55 : Int) : R (Int) :=
  R.ok x5_55
def glossaryref07_deep_l1 (self_glossaryref07_deep : S_api_Node → Int → R (Int)) (x0 : S_api_Node) (x1 : Int) : Nat → Int → Int → R ((Int) ⊕ (Int))
  | 0, _, _ => R.stuck
  | k + 1, x5_70, x15_70 => if x15_70 < (List.length x0.Kids : Int) then (if 0 ≤ x15_70 ∧ x15_70 < (List.length x0.Kids : Int) then ((self_glossaryref07_deep (gt x0.Kids x15_70) (IntKind.wrap .i64 (x1 + 1))).bind fun r94 => if (64 : Int) < (if x5_70 < r94 then r94 else x5_70) then (R.ok (.inr (if x5_70 < r94 then r94 else x5_70))) else (glossaryref07_deep_l1 self_glossaryref07_deep x0 x1 k (if x5_70 < r94 then r94 else x5_70) (IntKind.wrap .i64 (x15_70 + 1)))) else R.stuck) else (R.ok (.inl x5_70))
def glossaryref07_deep_b (self_glossaryref07_deep : S_api_Node → Int → R (Int)) (x0 : S_api_Node) (x1 : Int) : R (Int) :=
  if (64 : Int) < x1 then (R.ok x1) else ((glossaryref07_deep_l1 self_glossaryref07_deep x0 x1 Many x1 0).bind fun | (.inl x5p99) => glossaryref07_deep_j0 x5p99 | (.inr rp100) => R.ok rp100)
def glossaryref07_deep_n : Nat → S_api_Node → Int → R (Int)
  | 0 => fun _ _ => R.stuck
  | k + 1 => glossaryref07_deep_b (glossaryref07_deep_n k)
def glossaryref07_deep (x0 : S_api_Node) (x1 : Int) : R (Int) := glossaryref07_deep_n Many x0 x1
theorem glossaryref07_deep_b_call {self_glossaryref07_deep : S_api_Node → Int → R (Int)} (ih_glossaryref07_deep : ∀ {h : H} {x0 : S_api_Node} {x1 : Int} {Q : Out → H → Prop} {KK : (Int) → Prop} {X : V → Prop} (hq : (self_glossaryref07_deep x0 x1).post KK X) (hK : ∀ r, KK r → Q (.ret (.int .i64 r)) h) (hX : ∀ v, X v → V.Cl 0 v ∧ Q (.panic v) h), CA qprim 23 [.agg [.int .i64 x0.Kind, .str x0.Text, .int .i64 x0.N, .int .i64 x0.M, .int .i64 x0.A, .int .i64 x0.At, .str x0.Doc, .sl 8 (List.map S_api_Node.enc x0.Kids)], .int .i64 x1] h Q) {h : H} {x0 : S_api_Node} {x1 : Int} {Q : Out → H → Prop} {KK : (Int) → Prop} {X : V → Prop} (hq : (glossaryref07_deep_b self_glossaryref07_deep x0 x1).post KK X) (hK : ∀ r, KK r → Q (.ret (.int .i64 r)) h) (hX : ∀ v, X v → V.Cl 0 v ∧ Q (.panic v) h) : CA qprim 23 [.agg [.int .i64 x0.Kind, .str x0.Text, .int .i64 x0.N, .int .i64 x0.M, .int .i64 x0.A, .int .i64 x0.At, .str x0.Doc, .sl 8 (List.map S_api_Node.enc x0.Kids)], .int .i64 x1] h Q := by
  refine acalln hp Tryd.func23 rfl (by kernel_rfl) (n := 30) rfl (rs := [.tmp 4]) rfl [0, 1, 2, 4, 5, 7, 9, 13, 14, 15, 16, 26] [] true (by simp) ?_
  unfold glossaryref07_deep_b at hq
  simp only [initEnv, List.map_cons, List.map_nil, List.getD_cons_zero, List.getD_cons_succ, List.getD_nil, V.demote]
  rw [wp_seq]
  rw [wp_region]
  simp only [RC, RL, RM, ↓evs_eq, buildOk, lookup, lookV, update, elemOf, Option.isSome_map, unOp, wanted, aop, tkB, neD, Env.get, Env.put, Env.keep, putD, dstOk, ev, constV, nilSlice, V.demote, V.toOwn, V.cells, ty, R1.res, binOp, isShift, binOpT, isC, intOp, strOp, shiftOp, byteV, index, indexAddr, slice, bounds, hiB, loB, withB, maxV, minV, evs, pickV, lenV, builtin, initEnv, convert, K.isU8, strOf, load, store, fieldOf, append, room, fill, placeOf, splice, repl, chunks, Ty.val, Ty.agg, V.plain, H.row, H.ety, AObj.row, Nat.reduceAdd, ↓reduceIte, Nat.reduceEqDiff, Nat.reduceBEq, Nat.reduceBNe, Nat.reduceLT, Int.reduceToNat, Int.reduceEq, Int.reduceLT, Int.reduceLE, reduceCtorEq, Nat.reduceMul, Nat.reduceLeDiff, S_api_Node.enc_eq]
  rw [wp_seq]
  rw [wp_seq]
  rw [wp_region]
  simp only [RC, RL, RM, ↓evs_eq, buildOk, lookup, lookV, update, elemOf, Option.isSome_map, unOp, wanted, aop, tkB, neD, Env.get, Env.put, Env.keep, putD, dstOk, ev, constV, nilSlice, V.demote, V.toOwn, V.cells, ty, R1.res, binOp, isShift, binOpT, isC, intOp, strOp, shiftOp, byteV, index, indexAddr, slice, bounds, hiB, loB, withB, maxV, minV, evs, pickV, lenV, builtin, initEnv, convert, K.isU8, strOf, load, store, fieldOf, append, room, fill, placeOf, splice, repl, chunks, Ty.val, Ty.agg, V.plain, H.row, H.ety, AObj.row, Nat.reduceAdd, ↓reduceIte, Nat.reduceEqDiff, Nat.reduceBEq, Nat.reduceBNe, Nat.reduceLT, Int.reduceToNat, Int.reduceEq, Int.reduceLT, Int.reduceLE, reduceCtorEq, Nat.reduceMul, Nat.reduceLeDiff, S_api_Node.enc_eq]
  rw [wp_cond]
  simp only [RC, RL, RM, ↓evs_eq, buildOk, lookup, lookV, update, elemOf, Option.isSome_map, unOp, wanted, aop, tkB, neD, Env.get, Env.put, Env.keep, putD, dstOk, ev, constV, nilSlice, V.demote, V.toOwn, V.cells, ty, R1.res, binOp, isShift, binOpT, isC, intOp, strOp, shiftOp, byteV, index, indexAddr, slice, bounds, hiB, loB, withB, maxV, minV, evs, pickV, lenV, builtin, initEnv, convert, K.isU8, strOf, load, store, fieldOf, append, room, fill, placeOf, splice, repl, chunks, Ty.val, Ty.agg, V.plain, H.row, H.ety, AObj.row, Nat.reduceAdd, ↓reduceIte, Nat.reduceEqDiff, Nat.reduceBEq, Nat.reduceBNe, Nat.reduceLT, Int.reduceToNat, Int.reduceEq, Int.reduceLT, Int.reduceLE, reduceCtorEq, Nat.reduceMul, Nat.reduceLeDiff, S_api_Node.enc_eq]
  by_cases hc2 : (64 : Int) < x1
  · replace hq := (R.post_if hq).1 hc2
    refine condK_t (congrArg V.bool (decide_eq_true hc2)) ?_
    rw [wp_seq]
    rw [wp_region]
    simp only [RC, RL, RM, ↓evs_eq, buildOk, lookup, lookV, update, elemOf, Option.isSome_map, unOp, wanted, aop, tkB, neD, Env.get, Env.put, Env.keep, putD, dstOk, ev, constV, nilSlice, V.demote, V.toOwn, V.cells, ty, R1.res, binOp, isShift, binOpT, isC, intOp, strOp, shiftOp, byteV, index, indexAddr, slice, bounds, hiB, loB, withB, maxV, minV, evs, pickV, lenV, builtin, initEnv, convert, K.isU8, strOf, load, store, fieldOf, append, room, fill, placeOf, splice, repl, chunks, Ty.val, Ty.agg, V.plain, H.row, H.ety, AObj.row, Nat.reduceAdd, ↓reduceIte, Nat.reduceEqDiff, Nat.reduceBEq, Nat.reduceBNe, Nat.reduceLT, Int.reduceToNat, Int.reduceEq, Int.reduceLT, Int.reduceLE, reduceCtorEq, Nat.reduceMul, Nat.reduceLeDiff, S_api_Node.enc_eq]
    rw [wp_ret]
    simp only [retQ, results, resultAll, resultOne, Nat.zero_add, RC, RL, RM, ↓evs_eq, buildOk, lookup, lookV, update, elemOf, Option.isSome_map, unOp, wanted, aop, tkB, neD, Env.get, Env.put, Env.keep, putD, dstOk, ev, constV, nilSlice, V.demote, V.toOwn, V.cells, ty, R1.res, binOp, isShift, binOpT, isC, intOp, strOp, shiftOp, byteV, index, indexAddr, slice, bounds, hiB, loB, withB, maxV, minV, evs, pickV, lenV, builtin, initEnv, convert, K.isU8, strOf, load, store, fieldOf, append, room, fill, placeOf, splice, repl, chunks, Ty.val, Ty.agg, V.plain, H.row, H.ety, AObj.row, Nat.reduceAdd, ↓reduceIte, Nat.reduceEqDiff, Nat.reduceBEq, Nat.reduceBNe, Nat.reduceLT, Int.reduceToNat, Int.reduceEq, Int.reduceLT, Int.reduceLE, reduceCtorEq, Nat.reduceMul, Nat.reduceLeDiff, S_api_Node.enc_eq]
    refine ⟨_, (.refl _), ?_⟩
    refine leave_ok rfl (.int _ _) ?_
    exact hK _ hq
  · replace hq := (R.post_if hq).2 hc2
    refine condK_f (congrArg V.bool (decide_eq_false hc2)) ?_
    try simp only [wp_skip, RC]
    refine Wk.same ?_
    try simp only [RC]
    rw [wp_seq]
    rw [wp_region]
    simp only [RC, RL, RM, ↓evs_eq, buildOk, lookup, lookV, update, elemOf, Option.isSome_map, unOp, wanted, aop, tkB, neD, Env.get, Env.put, Env.keep, putD, dstOk, ev, constV, nilSlice, V.demote, V.toOwn, V.cells, ty, R1.res, binOp, isShift, binOpT, isC, intOp, strOp, shiftOp, byteV, index, indexAddr, slice, bounds, hiB, loB, withB, maxV, minV, evs, pickV, lenV, builtin, initEnv, convert, K.isU8, strOf, load, store, fieldOf, append, room, fill, placeOf, splice, repl, chunks, Ty.val, Ty.agg, V.plain, H.row, H.ety, AObj.row, Nat.reduceAdd, ↓reduceIte, Nat.reduceEqDiff, Nat.reduceBEq, Nat.reduceBNe, Nat.reduceLT, Int.reduceToNat, Int.reduceEq, Int.reduceLT, Int.reduceLE, reduceCtorEq, Nat.reduceMul, Nat.reduceLeDiff, S_api_Node.enc_eq]
    refine seq_gen (acall_mono hp) (σ := V × V × V × Int × V × V × V × V × V × V × V) (fun s => [(0, s.1), (1, .int .i64 x1), (2, s.2.1), (4, s.2.2.1), (5, .int .i64 s.2.2.2.1), (7, s.2.2.2.2.1), (9, s.2.2.2.2.2.1), (13, s.2.2.2.2.2.2.1), (14, s.2.2.2.2.2.2.2.1), (15, s.2.2.2.2.2.2.2.2.1), (16, s.2.2.2.2.2.2.2.2.2.1), (26, s.2.2.2.2.2.2.2.2.2.2)]) (fun s => h ++ [.cells 24 [.int .i64 x0.Kind, .str x0.Text, .int .i64 x0.N, .int .i64 x0.M, .int .i64 x0.A, .int .i64 x0.At, .str x0.Doc, .sl 8 (List.map S_api_Node.enc x0.Kids)]]) (fun s => (glossaryref07_deep_j0 s.2.2.2.1).post KK X) (fun s hq => ?_) (fun N hN56 => ?_)
    · obtain ⟨y0_55, y2_55, y4_55, x5_55, y7_55, y9_55, y13_55, y14_55, y15_55, y16_55, y26_55⟩ := s
      try dsimp only at hq ⊢
      unfold glossaryref07_deep_j0 at hq
      rw [wp_seq]
      rw [wp_region]
      simp only [RC, RL, RM, ↓evs_eq, buildOk, lookup, lookV, update, elemOf, Option.isSome_map, unOp, wanted, aop, tkB, neD, Env.get, Env.put, Env.keep, putD, dstOk, ev, constV, nilSlice, V.demote, V.toOwn, V.cells, ty, R1.res, binOp, isShift, binOpT, isC, intOp, strOp, shiftOp, byteV, index, indexAddr, slice, bounds, hiB, loB, withB, maxV, minV, evs, pickV, lenV, builtin, initEnv, convert, K.isU8, strOf, load, store, fieldOf, append, room, fill, placeOf, splice, repl, chunks, Ty.val, Ty.agg, V.plain, H.row, H.ety, AObj.row, Nat.reduceAdd, ↓reduceIte, Nat.reduceEqDiff, Nat.reduceBEq, Nat.reduceBNe, Nat.reduceLT, Int.reduceToNat, Int.reduceEq, Int.reduceLT, Int.reduceLE, reduceCtorEq, Nat.reduceMul, Nat.reduceLeDiff, S_api_Node.enc_eq]
      rw [wp_ret]
      simp only [retQ, results, resultAll, resultOne, Nat.zero_add, RC, RL, RM, ↓evs_eq, buildOk, lookup, lookV, update, elemOf, Option.isSome_map, unOp, wanted, aop, tkB, neD, Env.get, Env.put, Env.keep, putD, dstOk, ev, constV, nilSlice, V.demote, V.toOwn, V.cells, ty, R1.res, binOp, isShift, binOpT, isC, intOp, strOp, shiftOp, byteV, index, indexAddr, slice, bounds, hiB, loB, withB, maxV, minV, evs, pickV, lenV, builtin, initEnv, convert, K.isU8, strOf, load, store, fieldOf, append, room, fill, placeOf, splice, repl, chunks, Ty.val, Ty.agg, V.plain, H.row, H.ety, AObj.row, Nat.reduceAdd, ↓reduceIte, Nat.reduceEqDiff, Nat.reduceBEq, Nat.reduceBNe, Nat.reduceLT, Int.reduceToNat, Int.reduceEq, Int.reduceLT, Int.reduceLE, reduceCtorEq, Nat.reduceMul, Nat.reduceLeDiff, S_api_Node.enc_eq]
      refine ⟨_, (.refl _), ?_⟩
      refine leave_ok rfl (.int _ _) ?_
      exact hK _ hq
    · rw [wp_seq]
      rw [wp_region]
      simp only [RC, RL, RM, ↓evs_eq, buildOk, lookup, lookV, update, elemOf, Option.isSome_map, unOp, wanted, aop, tkB, neD, Env.get, Env.put, Env.keep, putD, dstOk, ev, constV, nilSlice, V.demote, V.toOwn, V.cells, ty, R1.res, binOp, isShift, binOpT, isC, intOp, strOp, shiftOp, byteV, index, indexAddr, slice, bounds, hiB, loB, withB, maxV, minV, evs, pickV, lenV, builtin, initEnv, convert, K.isU8, strOf, load, store, fieldOf, append, room, fill, placeOf, splice, repl, chunks, Ty.val, Ty.agg, V.plain, H.row, H.ety, AObj.row, Nat.reduceAdd, ↓reduceIte, Nat.reduceEqDiff, Nat.reduceBEq, Nat.reduceBNe, Nat.reduceLT, Int.reduceToNat, Int.reduceEq, Int.reduceLT, Int.reduceLE, reduceCtorEq, Nat.reduceMul, Nat.reduceLeDiff, S_api_Node.enc_eq]
      rw [wp_block]
      refine loop_in ?_
      refine Wk.le (EnvLe.cons (.top _) (EnvLe.cons (.refl _) (EnvLe.cons (.top _) (EnvLe.cons (.top _) (EnvLe.cons (.refl _) (EnvLe.cons (.refl _) (EnvLe.cons (.top _) (EnvLe.cons (.refl _) (EnvLe.cons (.refl _) (EnvLe.cons (.refl _) (EnvLe.cons (.refl _) (EnvLe.cons (.refl _) EnvLe.nil)))))))))))) ?_
      obtain ⟨K83, hK84, hq⟩ := R.post_cut hq
      refine loop_gen (acall_mono hp) (σ := V × V × V × Int × V × V × Int × V × V) (fun s => [(0, s.1), (1, .int .i64 x1), (2, s.2.1), (4, s.2.2.1), (5, .int .i64 s.2.2.2.1), (7, s.2.2.2.2.1), (9, s.2.2.2.2.2.1), (13, .sl 8 (List.map S_api_Node.enc x0.Kids)), (14, .int .i64 (List.length x0.Kids : Int)), (15, .int .i64 s.2.2.2.2.2.2.1), (16, s.2.2.2.2.2.2.2.1), (26, s.2.2.2.2.2.2.2.2)]) (fun s => h ++ [.cells 24 [.int .i64 x0.Kind, .str x0.Text, .int .i64 x0.N, .int .i64 x0.M, .int .i64 x0.A, .int .i64 x0.At, .str x0.Doc, .sl 8 (List.map S_api_Node.enc x0.Kids)]]) (fun k s => (glossaryref07_deep_l1 self_glossaryref07_deep x0 x1 k s.2.2.2.1 s.2.2.2.2.2.2.1).post K83 X) (fun s hs => hs) (fun k98 s hq N hN85 => ?_) _ (_, _, _, x1, _, _, 0, _, _) hq
      obtain ⟨y0_70, y2_70, y4_70, x5_70, y7_70, y9_70, x15_70, y16_70, y26_70⟩ := s
      try dsimp only at hq ⊢
      rw [glossaryref07_deep_l1] at hq
      rw [wp_seq]
      rw [wp_region]
      simp only [RC, RL, RM, ↓evs_eq, buildOk, lookup, lookV, update, elemOf, Option.isSome_map, unOp, wanted, aop, tkB, neD, Env.get, Env.put, Env.keep, putD, dstOk, ev, constV, nilSlice, V.demote, V.toOwn, V.cells, ty, R1.res, binOp, isShift, binOpT, isC, intOp, strOp, shiftOp, byteV, index, indexAddr, slice, bounds, hiB, loB, withB, maxV, minV, evs, pickV, lenV, builtin, initEnv, convert, K.isU8, strOf, load, store, fieldOf, append, room, fill, placeOf, splice, repl, chunks, Ty.val, Ty.agg, V.plain, H.row, H.ety, AObj.row, Nat.reduceAdd, ↓reduceIte, Nat.reduceEqDiff, Nat.reduceBEq, Nat.reduceBNe, Nat.reduceLT, Int.reduceToNat, Int.reduceEq, Int.reduceLT, Int.reduceLE, reduceCtorEq, Nat.reduceMul, Nat.reduceLeDiff, S_api_Node.enc_eq]
      rw [wp_seq]
      rw [wp_cond]
      simp only [RC, RL, RM, ↓evs_eq, buildOk, lookup, lookV, update, elemOf, Option.isSome_map, unOp, wanted, aop, tkB, neD, Env.get, Env.put, Env.keep, putD, dstOk, ev, constV, nilSlice, V.demote, V.toOwn, V.cells, ty, R1.res, binOp, isShift, binOpT, isC, intOp, strOp, shiftOp, byteV, index, indexAddr, slice, bounds, hiB, loB, withB, maxV, minV, evs, pickV, lenV, builtin, initEnv, convert, K.isU8, strOf, load, store, fieldOf, append, room, fill, placeOf, splice, repl, chunks, Ty.val, Ty.agg, V.plain, H.row, H.ety, AObj.row, Nat.reduceAdd, ↓reduceIte, Nat.reduceEqDiff, Nat.reduceBEq, Nat.reduceBNe, Nat.reduceLT, Int.reduceToNat, Int.reduceEq, Int.reduceLT, Int.reduceLE, reduceCtorEq, Nat.reduceMul, Nat.reduceLeDiff, S_api_Node.enc_eq]
      by_cases hc86 : x15_70 < (List.length x0.Kids : Int)
      · replace hq := (R.post_if hq).1 hc86
        refine condK_t (congrArg V.bool (decide_eq_true hc86)) ?_
        try simp only [wp_skip, RC]
        refine Wk.same ?_
        try simp only [RC]
        rw [wp_seq]
        rw [wp_block]
        rw [wp_seq]
        rw [wp_region]
        obtain ⟨g89, hq⟩ := R.guard hq
        have e90 := map_gt (f := S_api_Node.enc) (l := x0.Kids) (i := x15_70) g89
        simp only [e90, RC, RL, RM, ↓evs_eq, buildOk, lookup, lookV, update, elemOf, Option.isSome_map, unOp, wanted, aop, tkB, neD, Env.get, Env.put, Env.keep, putD, dstOk, ev, constV, nilSlice, V.demote, V.toOwn, V.cells, ty, R1.res, binOp, isShift, binOpT, isC, intOp, strOp, shiftOp, byteV, index, indexAddr, slice, bounds, hiB, loB, withB, maxV, minV, evs, pickV, lenV, builtin, initEnv, convert, K.isU8, strOf, load, store, fieldOf, append, room, fill, placeOf, splice, repl, chunks, Ty.val, Ty.agg, V.plain, H.row, H.ety, AObj.row, Nat.reduceAdd, ↓reduceIte, Nat.reduceEqDiff, Nat.reduceBEq, Nat.reduceBNe, Nat.reduceLT, Int.reduceToNat, Int.reduceEq, Int.reduceLT, Int.reduceLE, reduceCtorEq, Nat.reduceMul, Nat.reduceLeDiff, S_api_Node.enc_eq]
        repeat (with_reducible refine And.intro (by omega) ?_)
        rw [wp_seq]
        rw [wp_region]
        simp only [RC, RL, RM, ↓evs_eq, buildOk, lookup, lookV, update, elemOf, Option.isSome_map, unOp, wanted, aop, tkB, neD, Env.get, Env.put, Env.keep, putD, dstOk, ev, constV, nilSlice, V.demote, V.toOwn, V.cells, ty, R1.res, binOp, isShift, binOpT, isC, intOp, strOp, shiftOp, byteV, index, indexAddr, slice, bounds, hiB, loB, withB, maxV, minV, evs, pickV, lenV, builtin, initEnv, convert, K.isU8, strOf, load, store, fieldOf, append, room, fill, placeOf, splice, repl, chunks, Ty.val, Ty.agg, V.plain, H.row, H.ety, AObj.row, Nat.reduceAdd, ↓reduceIte, Nat.reduceEqDiff, Nat.reduceBEq, Nat.reduceBNe, Nat.reduceLT, Int.reduceToNat, Int.reduceEq, Int.reduceLT, Int.reduceLE, reduceCtorEq, Nat.reduceMul, Nat.reduceLeDiff, S_api_Node.enc_eq]
        obtain ⟨K96, hK97, hq⟩ := R.post_cut hq
        refine ih_glossaryref07_deep (x0 := (gt x0.Kids x15_70)) (x1 := (IntKind.wrap .i64 (x1 + 1))) hq (fun r94 hq => ?_) (fun v hv => ⟨(hX v hv).1, ?_⟩)
        · replace hq := hK97 _ hq
          simp only [RC, RL, RM, ↓evs_eq, buildOk, lookup, lookV, update, elemOf, Option.isSome_map, unOp, wanted, aop, tkB, neD, Env.get, Env.put, Env.keep, putD, dstOk, ev, constV, nilSlice, V.demote, V.toOwn, V.cells, ty, R1.res, binOp, isShift, binOpT, isC, intOp, strOp, shiftOp, byteV, index, indexAddr, slice, bounds, hiB, loB, withB, maxV, minV, evs, pickV, lenV, builtin, initEnv, convert, K.isU8, strOf, load, store, fieldOf, append, room, fill, placeOf, splice, repl, chunks, Ty.val, Ty.agg, V.plain, H.row, H.ety, AObj.row, Nat.reduceAdd, ↓reduceIte, Nat.reduceEqDiff, Nat.reduceBEq, Nat.reduceBNe, Nat.reduceLT, Int.reduceToNat, Int.reduceEq, Int.reduceLT, Int.reduceLE, reduceCtorEq, Nat.reduceMul, Nat.reduceLeDiff, S_api_Node.enc_eq]
          rw [wp_seq]
          rw [wp_region]
          simp only [RC, RL, RM, ↓evs_eq, buildOk, lookup, lookV, update, elemOf, Option.isSome_map, unOp, wanted, aop, tkB, neD, Env.get, Env.put, Env.keep, putD, dstOk, ev, constV, nilSlice, V.demote, V.toOwn, V.cells, ty, R1.res, binOp, isShift, binOpT, isC, intOp, strOp, shiftOp, byteV, index, indexAddr, slice, bounds, hiB, loB, withB, maxV, minV, evs, pickV, lenV, builtin, initEnv, convert, K.isU8, strOf, load, store, fieldOf, append, room, fill, placeOf, splice, repl, chunks, Ty.val, Ty.agg, V.plain, H.row, H.ety, AObj.row, Nat.reduceAdd, ↓reduceIte, Nat.reduceEqDiff, Nat.reduceBEq, Nat.reduceBNe, Nat.reduceLT, Int.reduceToNat, Int.reduceEq, Int.reduceLT, Int.reduceLE, reduceCtorEq, Nat.reduceMul, Nat.reduceLeDiff, S_api_Node.enc_eq]
          rw [wp_cond]
          simp only [RC, RL, RM, ↓evs_eq, buildOk, lookup, lookV, update, elemOf, Option.isSome_map, unOp, wanted, aop, tkB, neD, Env.get, Env.put, Env.keep, putD, dstOk, ev, constV, nilSlice, V.demote, V.toOwn, V.cells, ty, R1.res, binOp, isShift, binOpT, isC, intOp, strOp, shiftOp, byteV, index, indexAddr, slice, bounds, hiB, loB, withB, maxV, minV, evs, pickV, lenV, builtin, initEnv, convert, K.isU8, strOf, load, store, fieldOf, append, room, fill, placeOf, splice, repl, chunks, Ty.val, Ty.agg, V.plain, H.row, H.ety, AObj.row, Nat.reduceAdd, ↓reduceIte, Nat.reduceEqDiff, Nat.reduceBEq, Nat.reduceBNe, Nat.reduceLT, Int.reduceToNat, Int.reduceEq, Int.reduceLT, Int.reduceLE, reduceCtorEq, Nat.reduceMul, Nat.reduceLeDiff, S_api_Node.enc_eq]
          by_cases hc95 : (64 : Int) < (if x5_70 < r94 then r94 else x5_70)
          · replace hq := (R.post_if hq).1 hc95
            refine condK_t (congrArg V.bool (decide_eq_true hc95)) ?_
            rw [wp_seq]
            rw [wp_region]
            simp only [RC, RL, RM, ↓evs_eq, buildOk, lookup, lookV, update, elemOf, Option.isSome_map, unOp, wanted, aop, tkB, neD, Env.get, Env.put, Env.keep, putD, dstOk, ev, constV, nilSlice, V.demote, V.toOwn, V.cells, ty, R1.res, binOp, isShift, binOpT, isC, intOp, strOp, shiftOp, byteV, index, indexAddr, slice, bounds, hiB, loB, withB, maxV, minV, evs, pickV, lenV, builtin, initEnv, convert, K.isU8, strOf, load, store, fieldOf, append, room, fill, placeOf, splice, repl, chunks, Ty.val, Ty.agg, V.plain, H.row, H.ety, AObj.row, Nat.reduceAdd, ↓reduceIte, Nat.reduceEqDiff, Nat.reduceBEq, Nat.reduceBNe, Nat.reduceLT, Int.reduceToNat, Int.reduceEq, Int.reduceLT, Int.reduceLE, reduceCtorEq, Nat.reduceMul, Nat.reduceLeDiff, S_api_Node.enc_eq]
            rw [wp_ret]
            simp only [retQ, results, resultAll, resultOne, Nat.zero_add, RC, RL, RM, ↓evs_eq, buildOk, lookup, lookV, update, elemOf, Option.isSome_map, unOp, wanted, aop, tkB, neD, Env.get, Env.put, Env.keep, putD, dstOk, ev, constV, nilSlice, V.demote, V.toOwn, V.cells, ty, R1.res, binOp, isShift, binOpT, isC, intOp, strOp, shiftOp, byteV, index, indexAddr, slice, bounds, hiB, loB, withB, maxV, minV, evs, pickV, lenV, builtin, initEnv, convert, K.isU8, strOf, load, store, fieldOf, append, room, fill, placeOf, splice, repl, chunks, Ty.val, Ty.agg, V.plain, H.row, H.ety, AObj.row, Nat.reduceAdd, ↓reduceIte, Nat.reduceEqDiff, Nat.reduceBEq, Nat.reduceBNe, Nat.reduceLT, Int.reduceToNat, Int.reduceEq, Int.reduceLT, Int.reduceLE, reduceCtorEq, Nat.reduceMul, Nat.reduceLeDiff, S_api_Node.enc_eq]
            refine ⟨_, (.refl _), ?_⟩
            refine leave_ok rfl (.int _ _) ?_
            replace hq := hK84 _ hq
            exact hK _ hq
          · replace hq := (R.post_if hq).2 hc95
            refine condK_f (congrArg V.bool (decide_eq_false hc95)) ?_
            try simp only [wp_skip, RC]
            refine Wk.same ?_
            try simp only [RC]
            refine Wk.drop [.cells 24 [.int .i64 x0.Kind, .str x0.Text, .int .i64 x0.N, .int .i64 x0.M, .int .i64 x0.A, .int .i64 x0.At, .str x0.Doc, .sl 8 (List.map S_api_Node.enc x0.Kids)]] _ [.cells 24 [.int .i64 ((gt x0.Kids x15_70).Kind), .str (gt x0.Kids x15_70).Text, .int .i64 ((gt x0.Kids x15_70).N), .int .i64 ((gt x0.Kids x15_70).M), .int .i64 ((gt x0.Kids x15_70).A), .int .i64 ((gt x0.Kids x15_70).At), .str (gt x0.Kids x15_70).Doc, .sl 8 (List.map S_api_Node.enc (gt x0.Kids x15_70).Kids)]] rfl rfl (EnvLe.cons (.top _) (EnvLe.cons (.refl _) (EnvLe.cons (.top _) (EnvLe.cons (.top _) (EnvLe.cons (.refl _) (EnvLe.cons (.top _) (EnvLe.cons (.top _) (EnvLe.cons (.refl _) (EnvLe.cons (.refl _) (EnvLe.cons (.refl _) (EnvLe.cons (.top _) (EnvLe.cons (.top _) EnvLe.nil)))))))))))) (EnvCl.cons .top (EnvCl.cons (.int _ _) (EnvCl.cons .top (EnvCl.cons .top (EnvCl.cons (.int _ _) (EnvCl.cons .top (EnvCl.cons .top (EnvCl.cons (.sl _ _ (cl_map (S_api_Node.cl _))) (EnvCl.cons (.int _ _) (EnvCl.cons (.int _ _) (EnvCl.cons .top (EnvCl.cons .top (EnvCl.nil _))))))))))))) (objcl_cons (cl_cons (.int _ _) (cl_cons (.str _) (cl_cons (.int _ _) (cl_cons (.int _ _) (cl_cons (.int _ _) (cl_cons (.int _ _) (cl_cons (.str _) (cl_cons (.sl _ _ (cl_map (S_api_Node.cl _))) cl_nil)))))))) objcl_nil) ?_
            try simp only [RC]
            rw [wp_region]
            simp only [RC, RL, RM, ↓evs_eq, buildOk, lookup, lookV, update, elemOf, Option.isSome_map, unOp, wanted, aop, tkB, neD, Env.get, Env.put, Env.keep, putD, dstOk, ev, constV, nilSlice, V.demote, V.toOwn, V.cells, ty, R1.res, binOp, isShift, binOpT, isC, intOp, strOp, shiftOp, byteV, index, indexAddr, slice, bounds, hiB, loB, withB, maxV, minV, evs, pickV, lenV, builtin, initEnv, convert, K.isU8, strOf, load, store, fieldOf, append, room, fill, placeOf, splice, repl, chunks, Ty.val, Ty.agg, V.plain, H.row, H.ety, AObj.row, Nat.reduceAdd, ↓reduceIte, Nat.reduceEqDiff, Nat.reduceBEq, Nat.reduceBNe, Nat.reduceLT, Int.reduceToNat, Int.reduceEq, Int.reduceLT, Int.reduceLE, reduceCtorEq, Nat.reduceMul, Nat.reduceLeDiff, S_api_Node.enc_eq]
            refine Wk.same ?_
            exact hN85 (_, _, _, (if x5_70 < r94 then r94 else x5_70), _, _, (IntKind.wrap .i64 (x15_70 + 1)), _, _) hq
        · simp only [RC, retQ, ↓reduceIte, Bool.false_eq_true]
          exact leaveP_ok ((hX _ hv).1.mono (Nat.zero_le _)) (hX _ hv).2
      · replace hq := (R.post_if hq).2 hc86
        refine condK_f (congrArg V.bool (decide_eq_false hc86)) ?_
        rw [wp_exit]
        try simp only [↓reduceIte, Nat.reduceEqDiff, reduceCtorEq, if_false, if_true, eq_self, Nat.succ_ne_self, RC]
        replace hq := hK84 _ hq
        try dsimp only at hq
        refine Wk.le (EnvLe.cons (.refl _) (EnvLe.cons (.refl _) (EnvLe.cons (.refl _) (EnvLe.cons (.refl _) (EnvLe.cons (.refl _) (EnvLe.cons (.refl _) (EnvLe.cons (.refl _) (EnvLe.cons (.top _) (EnvLe.cons (.top _) (EnvLe.cons (.top _) (EnvLe.cons (.top _) (EnvLe.cons (.refl _) EnvLe.nil)))))))))))) ?_
        try simp only [RC]
        exact hN56 (_, _, _, x5_70, _, _, _, _, _, _, _) hq
theorem glossaryref07_deep_ih (k : Nat) : ∀ {h : H} {x0 : S_api_Node} {x1 : Int} {Q : Out → H → Prop} {KK : (Int) → Prop} {X : V → Prop} (hq : (glossaryref07_deep_n k x0 x1).post KK X) (hK : ∀ r, KK r → Q (.ret (.int .i64 r)) h) (hX : ∀ v, X v → V.Cl 0 v ∧ Q (.panic v) h), CA qprim 23 [.agg [.int .i64 x0.Kind, .str x0.Text, .int .i64 x0.N, .int .i64 x0.M, .int .i64 x0.A, .int .i64 x0.At, .str x0.Doc, .sl 8 (List.map S_api_Node.enc x0.Kids)], .int .i64 x1] h Q := by
  induction k with
  | zero => intro h x0 x1 Q KK X hq; exact False.elim hq
  | succ k ih => intro h x0 x1 Q KK X hq hK hX; exact glossaryref07_deep_b_call (ih_glossaryref07_deep := ih) hq hK hX
theorem glossaryref07_deep_call {h : H} {x0 : S_api_Node} {x1 : Int} {Q : Out → H → Prop} {KK : (Int) → Prop} {X : V → Prop} (hq : (glossaryref07_deep x0 x1).post KK X) (hK : ∀ r, KK r → Q (.ret (.int .i64 r)) h) (hX : ∀ v, X v → V.Cl 0 v ∧ Q (.panic v) h) : CA qprim 23 [.agg [.int .i64 x0.Kind, .str x0.Text, .int .i64 x0.N, .int .i64 x0.M, .int .i64 x0.A, .int .i64 x0.At, .str x0.Doc, .sl 8 (List.map S_api_Node.enc x0.Kids)], .int .i64 x1] h Q := glossaryref07_deep_ih Many hq hK hX

def glossaryref07_Deep (x0 : S_api_Node) : R (Int) :=
  (glossaryref07_deep x0 1).bind fun r4 => if (64 : Int) < r4 then (R.ok 100) else (R.ok r4)
theorem glossaryref07_Deep_call {h : H} {x0 : S_api_Node} {Q : Out → H → Prop} {KK : (Int) → Prop} {X : V → Prop} (hq : (glossaryref07_Deep x0).post KK X) (hK : ∀ r, KK r → Q (.ret (.int .i64 r)) h) (hX : ∀ v, X v → V.Cl 0 v ∧ Q (.panic v) h) : CA qprim 12 [.agg [.int .i64 x0.Kind, .str x0.Text, .int .i64 x0.N, .int .i64 x0.M, .int .i64 x0.A, .int .i64 x0.At, .str x0.Doc, .sl 8 (List.map S_api_Node.enc x0.Kids)]] h Q := by
  refine acalln hp Tryd.func12 rfl (by kernel_rfl) (n := 9) rfl (rs := [.tmp 2]) rfl [0, 1, 2, 3, 7] [] true (by simp) ?_
  unfold glossaryref07_Deep at hq
  simp only [initEnv, List.map_cons, List.map_nil, List.getD_cons_zero, List.getD_cons_succ, List.getD_nil, V.demote]
  rw [wp_seq]
  rw [wp_region]
  simp only [RC, RL, RM, ↓evs_eq, buildOk, lookup, lookV, update, elemOf, Option.isSome_map, unOp, wanted, aop, tkB, neD, Env.get, Env.put, Env.keep, putD, dstOk, ev, constV, nilSlice, V.demote, V.toOwn, V.cells, ty, R1.res, binOp, isShift, binOpT, isC, intOp, strOp, shiftOp, byteV, index, indexAddr, slice, bounds, hiB, loB, withB, maxV, minV, evs, pickV, lenV, builtin, initEnv, convert, K.isU8, strOf, load, store, fieldOf, append, room, fill, placeOf, splice, repl, chunks, Ty.val, Ty.agg, V.plain, H.row, H.ety, AObj.row, Nat.reduceAdd, ↓reduceIte, Nat.reduceEqDiff, Nat.reduceBEq, Nat.reduceBNe, Nat.reduceLT, Int.reduceToNat, Int.reduceEq, Int.reduceLT, Int.reduceLE, reduceCtorEq, Nat.reduceMul, Nat.reduceLeDiff, S_api_Node.enc_eq]
  rw [wp_seq]
  rw [wp_region]
  simp only [RC, RL, RM, ↓evs_eq, buildOk, lookup, lookV, update, elemOf, Option.isSome_map, unOp, wanted, aop, tkB, neD, Env.get, Env.put, Env.keep, putD, dstOk, ev, constV, nilSlice, V.demote, V.toOwn, V.cells, ty, R1.res, binOp, isShift, binOpT, isC, intOp, strOp, shiftOp, byteV, index, indexAddr, slice, bounds, hiB, loB, withB, maxV, minV, evs, pickV, lenV, builtin, initEnv, convert, K.isU8, strOf, load, store, fieldOf, append, room, fill, placeOf, splice, repl, chunks, Ty.val, Ty.agg, V.plain, H.row, H.ety, AObj.row, Nat.reduceAdd, ↓reduceIte, Nat.reduceEqDiff, Nat.reduceBEq, Nat.reduceBNe, Nat.reduceLT, Int.reduceToNat, Int.reduceEq, Int.reduceLT, Int.reduceLE, reduceCtorEq, Nat.reduceMul, Nat.reduceLeDiff, S_api_Node.enc_eq]
  obtain ⟨K7, hK8, hq⟩ := R.post_cut hq
  refine glossaryref07_deep_call (x0 := x0) (x1 := 1) hq (fun r4 hq => ?_) (fun v hv => ⟨(hX v hv).1, ?_⟩)
  · replace hq := hK8 _ hq
    simp only [RC, RL, RM, ↓evs_eq, buildOk, lookup, lookV, update, elemOf, Option.isSome_map, unOp, wanted, aop, tkB, neD, Env.get, Env.put, Env.keep, putD, dstOk, ev, constV, nilSlice, V.demote, V.toOwn, V.cells, ty, R1.res, binOp, isShift, binOpT, isC, intOp, strOp, shiftOp, byteV, index, indexAddr, slice, bounds, hiB, loB, withB, maxV, minV, evs, pickV, lenV, builtin, initEnv, convert, K.isU8, strOf, load, store, fieldOf, append, room, fill, placeOf, splice, repl, chunks, Ty.val, Ty.agg, V.plain, H.row, H.ety, AObj.row, Nat.reduceAdd, ↓reduceIte, Nat.reduceEqDiff, Nat.reduceBEq, Nat.reduceBNe, Nat.reduceLT, Int.reduceToNat, Int.reduceEq, Int.reduceLT, Int.reduceLE, reduceCtorEq, Nat.reduceMul, Nat.reduceLeDiff, S_api_Node.enc_eq]
    rw [wp_seq]
    rw [wp_seq]
    rw [wp_region]
    simp only [RC, RL, RM, ↓evs_eq, buildOk, lookup, lookV, update, elemOf, Option.isSome_map, unOp, wanted, aop, tkB, neD, Env.get, Env.put, Env.keep, putD, dstOk, ev, constV, nilSlice, V.demote, V.toOwn, V.cells, ty, R1.res, binOp, isShift, binOpT, isC, intOp, strOp, shiftOp, byteV, index, indexAddr, slice, bounds, hiB, loB, withB, maxV, minV, evs, pickV, lenV, builtin, initEnv, convert, K.isU8, strOf, load, store, fieldOf, append, room, fill, placeOf, splice, repl, chunks, Ty.val, Ty.agg, V.plain, H.row, H.ety, AObj.row, Nat.reduceAdd, ↓reduceIte, Nat.reduceEqDiff, Nat.reduceBEq, Nat.reduceBNe, Nat.reduceLT, Int.reduceToNat, Int.reduceEq, Int.reduceLT, Int.reduceLE, reduceCtorEq, Nat.reduceMul, Nat.reduceLeDiff, S_api_Node.enc_eq]
    rw [wp_cond]
    simp only [RC, RL, RM, ↓evs_eq, buildOk, lookup, lookV, update, elemOf, Option.isSome_map, unOp, wanted, aop, tkB, neD, Env.get, Env.put, Env.keep, putD, dstOk, ev, constV, nilSlice, V.demote, V.toOwn, V.cells, ty, R1.res, binOp, isShift, binOpT, isC, intOp, strOp, shiftOp, byteV, index, indexAddr, slice, bounds, hiB, loB, withB, maxV, minV, evs, pickV, lenV, builtin, initEnv, convert, K.isU8, strOf, load, store, fieldOf, append, room, fill, placeOf, splice, repl, chunks, Ty.val, Ty.agg, V.plain, H.row, H.ety, AObj.row, Nat.reduceAdd, ↓reduceIte, Nat.reduceEqDiff, Nat.reduceBEq, Nat.reduceBNe, Nat.reduceLT, Int.reduceToNat, Int.reduceEq, Int.reduceLT, Int.reduceLE, reduceCtorEq, Nat.reduceMul, Nat.reduceLeDiff, S_api_Node.enc_eq]
    by_cases hc6 : (64 : Int) < r4
    · replace hq := (R.post_if hq).1 hc6
      refine condK_t (congrArg V.bool (decide_eq_true hc6)) ?_
      rw [wp_seq]
      rw [wp_region]
      simp only [RC, RL, RM, ↓evs_eq, buildOk, lookup, lookV, update, elemOf, Option.isSome_map, unOp, wanted, aop, tkB, neD, Env.get, Env.put, Env.keep, putD, dstOk, ev, constV, nilSlice, V.demote, V.toOwn, V.cells, ty, R1.res, binOp, isShift, binOpT, isC, intOp, strOp, shiftOp, byteV, index, indexAddr, slice, bounds, hiB, loB, withB, maxV, minV, evs, pickV, lenV, builtin, initEnv, convert, K.isU8, strOf, load, store, fieldOf, append, room, fill, placeOf, splice, repl, chunks, Ty.val, Ty.agg, V.plain, H.row, H.ety, AObj.row, Nat.reduceAdd, ↓reduceIte, Nat.reduceEqDiff, Nat.reduceBEq, Nat.reduceBNe, Nat.reduceLT, Int.reduceToNat, Int.reduceEq, Int.reduceLT, Int.reduceLE, reduceCtorEq, Nat.reduceMul, Nat.reduceLeDiff, S_api_Node.enc_eq]
      rw [wp_ret]
      simp only [retQ, results, resultAll, resultOne, Nat.zero_add, RC, RL, RM, ↓evs_eq, buildOk, lookup, lookV, update, elemOf, Option.isSome_map, unOp, wanted, aop, tkB, neD, Env.get, Env.put, Env.keep, putD, dstOk, ev, constV, nilSlice, V.demote, V.toOwn, V.cells, ty, R1.res, binOp, isShift, binOpT, isC, intOp, strOp, shiftOp, byteV, index, indexAddr, slice, bounds, hiB, loB, withB, maxV, minV, evs, pickV, lenV, builtin, initEnv, convert, K.isU8, strOf, load, store, fieldOf, append, room, fill, placeOf, splice, repl, chunks, Ty.val, Ty.agg, V.plain, H.row, H.ety, AObj.row, Nat.reduceAdd, ↓reduceIte, Nat.reduceEqDiff, Nat.reduceBEq, Nat.reduceBNe, Nat.reduceLT, Int.reduceToNat, Int.reduceEq, Int.reduceLT, Int.reduceLE, reduceCtorEq, Nat.reduceMul, Nat.reduceLeDiff, S_api_Node.enc_eq]
      refine ⟨_, (.refl _), ?_⟩
      refine leave_ok rfl (.int _ _) ?_
      exact hK _ hq
    · replace hq := (R.post_if hq).2 hc6
      refine condK_f (congrArg V.bool (decide_eq_false hc6)) ?_
      try simp only [wp_skip, RC]
      refine Wk.same ?_
      try simp only [RC]
      rw [wp_seq]
      rw [wp_region]
      simp only [RC, RL, RM, ↓evs_eq, buildOk, lookup, lookV, update, elemOf, Option.isSome_map, unOp, wanted, aop, tkB, neD, Env.get, Env.put, Env.keep, putD, dstOk, ev, constV, nilSlice, V.demote, V.toOwn, V.cells, ty, R1.res, binOp, isShift, binOpT, isC, intOp, strOp, shiftOp, byteV, index, indexAddr, slice, bounds, hiB, loB, withB, maxV, minV, evs, pickV, lenV, builtin, initEnv, convert, K.isU8, strOf, load, store, fieldOf, append, room, fill, placeOf, splice, repl, chunks, Ty.val, Ty.agg, V.plain, H.row, H.ety, AObj.row, Nat.reduceAdd, ↓reduceIte, Nat.reduceEqDiff, Nat.reduceBEq, Nat.reduceBNe, Nat.reduceLT, Int.reduceToNat, Int.reduceEq, Int.reduceLT, Int.reduceLE, reduceCtorEq, Nat.reduceMul, Nat.reduceLeDiff, S_api_Node.enc_eq]
      rw [wp_ret]
      simp only [retQ, results, resultAll, resultOne, Nat.zero_add, RC, RL, RM, ↓evs_eq, buildOk, lookup, lookV, update, elemOf, Option.isSome_map, unOp, wanted, aop, tkB, neD, Env.get, Env.put, Env.keep, putD, dstOk, ev, constV, nilSlice, V.demote, V.toOwn, V.cells, ty, R1.res, binOp, isShift, binOpT, isC, intOp, strOp, shiftOp, byteV, index, indexAddr, slice, bounds, hiB, loB, withB, maxV, minV, evs, pickV, lenV, builtin, initEnv, convert, K.isU8, strOf, load, store, fieldOf, append, room, fill, placeOf, splice, repl, chunks, Ty.val, Ty.agg, V.plain, H.row, H.ety, AObj.row, Nat.reduceAdd, ↓reduceIte, Nat.reduceEqDiff, Nat.reduceBEq, Nat.reduceBNe, Nat.reduceLT, Int.reduceToNat, Int.reduceEq, Int.reduceLT, Int.reduceLE, reduceCtorEq, Nat.reduceMul, Nat.reduceLeDiff, S_api_Node.enc_eq]
      refine ⟨_, (.refl _), ?_⟩
      refine leave_ok rfl (.int _ _) ?_
      exact hK _ hq
  · simp only [RC, retQ, ↓reduceIte, Bool.false_eq_true]
    exact leaveP_ok ((hX _ hv).1.mono (Nat.zero_le _)) (hX _ hv).2

def glossaryref07_same_j0 : R (Bool) :=
  R.ok true
def glossaryref07_same_l1 (self_glossaryref07_same : S_api_Node → S_api_Node → R (Bool)) (x0 : S_api_Node) (x1 : S_api_Node) : Nat → Int → R ((Unit) ⊕ (Bool))
  | 0, _ => R.stuck
  | k + 1, x58_67 => if x58_67 < (List.length x0.Kids : Int) then (if 0 ≤ x58_67 ∧ x58_67 < (List.length x0.Kids : Int) then (if 0 ≤ x58_67 ∧ x58_67 < (List.length x1.Kids : Int) then ((self_glossaryref07_same (gt x0.Kids x58_67) (gt x1.Kids x58_67)).sure.bind fun r102 => if r102 = true then (glossaryref07_same_l1 self_glossaryref07_same x0 x1 k (IntKind.wrap .i64 (x58_67 + 1))) else (R.ok (.inr false))) else R.stuck) else R.stuck) else (R.ok (.inl ()))
def glossaryref07_same_b (self_glossaryref07_same : S_api_Node → S_api_Node → R (Bool)) (x0 : S_api_Node) (x1 : S_api_Node) : R (Bool) :=
  (if x0.Kind = x1.Kind then (if x0.Text = x1.Text then (if x0.N = x1.N then (if x0.M = x1.M then (if x0.A = x1.A then (if x0.Doc = x1.Doc then (R.ok (!(decide ((List.length x0.Kids : Int) = (List.length x1.Kids : Int))))) else (R.ok true)) else (R.ok true)) else (R.ok true)) else (R.ok true)) else (R.ok true)) else (R.ok true)).bind fun x54m15 => if x54m15 = true then (R.ok false) else ((glossaryref07_same_l1 self_glossaryref07_same x0 x1 Many 0).bind fun | (.inl _) => glossaryref07_same_j0 | (.inr rp109) => R.ok rp109)
def glossaryref07_same_n : Nat → S_api_Node → S_api_Node → R (Bool)
  | 0 => fun _ _ => R.stuck
  | k + 1 => glossaryref07_same_b (glossaryref07_same_n k)
def glossaryref07_same (x0 : S_api_Node) (x1 : S_api_Node) : R (Bool) := glossaryref07_same_n Many x0 x1
theorem glossaryref07_same_b_call {self_glossaryref07_same : S_api_Node → S_api_Node → R (Bool)} (ih_glossaryref07_same : ∀ {h : H} {x0 : S_api_Node} {x1 : S_api_Node} {Q : Out → H → Prop} {KK : (Bool) → Prop} {X : V → Prop} (hq : (self_glossaryref07_same x0 x1).post KK X) (hK : ∀ r, KK r → Q (.ret (.bool r)) h) (hX : ∀ v, X v → V.Cl 0 v ∧ Q (.panic v) h), CA qprim 25 [.agg [.int .i64 x0.Kind, .str x0.Text, .int .i64 x0.N, .int .i64 x0.M, .int .i64 x0.A, .int .i64 x0.At, .str x0.Doc, .sl 8 (List.map S_api_Node.enc x0.Kids)], .agg [.int .i64 x1.Kind, .str x1.Text, .int .i64 x1.N, .int .i64 x1.M, .int .i64 x1.A, .int .i64 x1.At, .str x1.Doc, .sl 8 (List.map S_api_Node.enc x1.Kids)]] h Q) {h : H} {x0 : S_api_Node} {x1 : S_api_Node} {Q : Out → H → Prop} {KK : (Bool) → Prop} {X : V → Prop} (hq : (glossaryref07_same_b self_glossaryref07_same x0 x1).post KK X) (hK : ∀ r, KK r → Q (.ret (.bool r)) h) (hX : ∀ v, X v → V.Cl 0 v ∧ Q (.panic v) h) : CA qprim 25 [.agg [.int .i64 x0.Kind, .str x0.Text, .int .i64 x0.N, .int .i64 x0.M, .int .i64 x0.A, .int .i64 x0.At, .str x0.Doc, .sl 8 (List.map S_api_Node.enc x0.Kids)], .agg [.int .i64 x1.Kind, .str x1.Text, .int .i64 x1.N, .int .i64 x1.M, .int .i64 x1.A, .int .i64 x1.At, .str x1.Doc, .sl 8 (List.map S_api_Node.enc x1.Kids)]] h Q := by
  refine acalln hp Tryd.func25 rfl (by kernel_rfl) (n := 74) rfl (rs := [.tmp 4]) rfl [0, 1, 2, 3, 4, 5, 54, 57, 58, 59, 72] [] true (by simp) ?_
  unfold glossaryref07_same_b at hq
  simp only [initEnv, List.map_cons, List.map_nil, List.getD_cons_zero, List.getD_cons_succ, List.getD_nil, V.demote]
  rw [wp_seq]
  rw [wp_region]
  simp only [RC, RL, RM, ↓evs_eq, buildOk, lookup, lookV, update, elemOf, Option.isSome_map, unOp, wanted, aop, tkB, neD, Env.get, Env.put, Env.keep, putD, dstOk, ev, constV, nilSlice, V.demote, V.toOwn, V.cells, ty, R1.res, binOp, isShift, binOpT, isC, intOp, strOp, shiftOp, byteV, index, indexAddr, slice, bounds, hiB, loB, withB, maxV, minV, evs, pickV, lenV, builtin, initEnv, convert, K.isU8, strOf, load, store, fieldOf, append, room, fill, placeOf, splice, repl, chunks, Ty.val, Ty.agg, V.plain, H.row, H.ety, AObj.row, Nat.reduceAdd, ↓reduceIte, Nat.reduceEqDiff, Nat.reduceBEq, Nat.reduceBNe, Nat.reduceLT, Int.reduceToNat, Int.reduceEq, Int.reduceLT, Int.reduceLE, reduceCtorEq, Nat.reduceMul, Nat.reduceLeDiff, S_api_Node.enc_eq]
  rw [wp_seq]
  obtain ⟨K16, hK17, hq⟩ := R.post_cut hq
  refine seq_gen (acall_mono hp) (σ := Bool) (fun s => [(0, .agg [.int .i64 x0.Kind, .str x0.Text, .int .i64 x0.N, .int .i64 x0.M, .int .i64 x0.A, .int .i64 x0.At, .str x0.Doc, .sl 8 (List.map S_api_Node.enc x0.Kids)]), (1, .agg [.int .i64 x1.Kind, .str x1.Text, .int .i64 x1.N, .int .i64 x1.M, .int .i64 x1.A, .int .i64 x1.At, .str x1.Doc, .sl 8 (List.map S_api_Node.enc x1.Kids)]), (2, .ref h.length 0), (3, .ref (h.length + 1) 0), (4, .bool false), (5, .top), (54, .bool s), (57, .top), (58, .top), (59, .top), (72, .top)]) (fun s => h ++ [.cells 24 [.int .i64 x0.Kind, .str x0.Text, .int .i64 x0.N, .int .i64 x0.M, .int .i64 x0.A, .int .i64 x0.At, .str x0.Doc, .sl 8 (List.map S_api_Node.enc x0.Kids)], .cells 24 [.int .i64 x1.Kind, .str x1.Text, .int .i64 x1.N, .int .i64 x1.M, .int .i64 x1.A, .int .i64 x1.At, .str x1.Doc, .sl 8 (List.map S_api_Node.enc x1.Kids)]]) (fun s => K16 s) (fun x54m15 hq => ?_) (fun N hN18 => ?_)
  · replace hq := hK17 _ hq
    try dsimp only at hq ⊢
    rw [wp_cond]
    simp only [RC, RL, RM, ↓evs_eq, buildOk, lookup, lookV, update, elemOf, Option.isSome_map, unOp, wanted, aop, tkB, neD, Env.get, Env.put, Env.keep, putD, dstOk, ev, constV, nilSlice, V.demote, V.toOwn, V.cells, ty, R1.res, binOp, isShift, binOpT, isC, intOp, strOp, shiftOp, byteV, index, indexAddr, slice, bounds, hiB, loB, withB, maxV, minV, evs, pickV, lenV, builtin, initEnv, convert, K.isU8, strOf, load, store, fieldOf, append, room, fill, placeOf, splice, repl, chunks, Ty.val, Ty.agg, V.plain, H.row, H.ety, AObj.row, Nat.reduceAdd, ↓reduceIte, Nat.reduceEqDiff, Nat.reduceBEq, Nat.reduceBNe, Nat.reduceLT, Int.reduceToNat, Int.reduceEq, Int.reduceLT, Int.reduceLE, reduceCtorEq, Nat.reduceMul, Nat.reduceLeDiff, S_api_Node.enc_eq]
    by_cases hc25 : x54m15 = true
    · replace hq := (R.post_if hq).1 hc25
      refine condK_t (congrArg V.bool (hc25)) ?_
      rw [wp_seq]
      rw [wp_region]
      simp only [RC, RL, RM, ↓evs_eq, buildOk, lookup, lookV, update, elemOf, Option.isSome_map, unOp, wanted, aop, tkB, neD, Env.get, Env.put, Env.keep, putD, dstOk, ev, constV, nilSlice, V.demote, V.toOwn, V.cells, ty, R1.res, binOp, isShift, binOpT, isC, intOp, strOp, shiftOp, byteV, index, indexAddr, slice, bounds, hiB, loB, withB, maxV, minV, evs, pickV, lenV, builtin, initEnv, convert, K.isU8, strOf, load, store, fieldOf, append, room, fill, placeOf, splice, repl, chunks, Ty.val, Ty.agg, V.plain, H.row, H.ety, AObj.row, Nat.reduceAdd, ↓reduceIte, Nat.reduceEqDiff, Nat.reduceBEq, Nat.reduceBNe, Nat.reduceLT, Int.reduceToNat, Int.reduceEq, Int.reduceLT, Int.reduceLE, reduceCtorEq, Nat.reduceMul, Nat.reduceLeDiff, S_api_Node.enc_eq]
      rw [wp_ret]
      simp only [retQ, results, resultAll, resultOne, Nat.zero_add, RC, RL, RM, ↓evs_eq, buildOk, lookup, lookV, update, elemOf, Option.isSome_map, unOp, wanted, aop, tkB, neD, Env.get, Env.put, Env.keep, putD, dstOk, ev, constV, nilSlice, V.demote, V.toOwn, V.cells, ty, R1.res, binOp, isShift, binOpT, isC, intOp, strOp, shiftOp, byteV, index, indexAddr, slice, bounds, hiB, loB, withB, maxV, minV, evs, pickV, lenV, builtin, initEnv, convert, K.isU8, strOf, load, store, fieldOf, append, room, fill, placeOf, splice, repl, chunks, Ty.val, Ty.agg, V.plain, H.row, H.ety, AObj.row, Nat.reduceAdd, ↓reduceIte, Nat.reduceEqDiff, Nat.reduceBEq, Nat.reduceBNe, Nat.reduceLT, Int.reduceToNat, Int.reduceEq, Int.reduceLT, Int.reduceLE, reduceCtorEq, Nat.reduceMul, Nat.reduceLeDiff, S_api_Node.enc_eq]
      refine ⟨_, (.refl _), ?_⟩
      refine leave_ok rfl (.bool _) ?_
      exact hK _ hq
    · replace hq := (R.post_if hq).2 hc25
      replace hc25 := eq_false_of_ne_true hc25
      refine condK_f (congrArg V.bool (hc25)) ?_
      try simp only [wp_skip, RC]
      refine Wk.same ?_
      try simp only [RC]
      refine seq_gen (acall_mono hp) (σ := V × V × V × V × V × V) (fun s => [(0, .agg [.int .i64 x0.Kind, .str x0.Text, .int .i64 x0.N, .int .i64 x0.M, .int .i64 x0.A, .int .i64 x0.At, .str x0.Doc, .sl 8 (List.map S_api_Node.enc x0.Kids)]), (1, .agg [.int .i64 x1.Kind, .str x1.Text, .int .i64 x1.N, .int .i64 x1.M, .int .i64 x1.A, .int .i64 x1.At, .str x1.Doc, .sl 8 (List.map S_api_Node.enc x1.Kids)]), (2, .ref h.length 0), (3, .ref (h.length + 1) 0), (4, s.1), (5, s.2.1), (54, .bool x54m15), (57, s.2.2.1), (58, s.2.2.2.1), (59, s.2.2.2.2.1), (72, s.2.2.2.2.2)]) (fun s => h ++ [.cells 24 [.int .i64 x0.Kind, .str x0.Text, .int .i64 x0.N, .int .i64 x0.M, .int .i64 x0.A, .int .i64 x0.At, .str x0.Doc, .sl 8 (List.map S_api_Node.enc x0.Kids)], .cells 24 [.int .i64 x1.Kind, .str x1.Text, .int .i64 x1.N, .int .i64 x1.M, .int .i64 x1.A, .int .i64 x1.At, .str x1.Doc, .sl 8 (List.map S_api_Node.enc x1.Kids)]]) (fun s => (glossaryref07_same_j0).post KK X) (fun s hq => ?_) (fun N hN66 => ?_)
      · obtain ⟨y4_65, y5_65, y57_65, y58_65, y59_65, y72_65⟩ := s
        try dsimp only at hq ⊢
        unfold glossaryref07_same_j0 at hq
        rw [wp_seq]
        rw [wp_region]
        simp only [RC, RL, RM, ↓evs_eq, buildOk, lookup, lookV, update, elemOf, Option.isSome_map, unOp, wanted, aop, tkB, neD, Env.get, Env.put, Env.keep, putD, dstOk, ev, constV, nilSlice, V.demote, V.toOwn, V.cells, ty, R1.res, binOp, isShift, binOpT, isC, intOp, strOp, shiftOp, byteV, index, indexAddr, slice, bounds, hiB, loB, withB, maxV, minV, evs, pickV, lenV, builtin, initEnv, convert, K.isU8, strOf, load, store, fieldOf, append, room, fill, placeOf, splice, repl, chunks, Ty.val, Ty.agg, V.plain, H.row, H.ety, AObj.row, Nat.reduceAdd, ↓reduceIte, Nat.reduceEqDiff, Nat.reduceBEq, Nat.reduceBNe, Nat.reduceLT, Int.reduceToNat, Int.reduceEq, Int.reduceLT, Int.reduceLE, reduceCtorEq, Nat.reduceMul, Nat.reduceLeDiff, S_api_Node.enc_eq]
        rw [wp_ret]
        simp only [retQ, results, resultAll, resultOne, Nat.zero_add, RC, RL, RM, ↓evs_eq, buildOk, lookup, lookV, update, elemOf, Option.isSome_map, unOp, wanted, aop, tkB, neD, Env.get, Env.put, Env.keep, putD, dstOk, ev, constV, nilSlice, V.demote, V.toOwn, V.cells, ty, R1.res, binOp, isShift, binOpT, isC, intOp, strOp, shiftOp, byteV, index, indexAddr, slice, bounds, hiB, loB, withB, maxV, minV, evs, pickV, lenV, builtin, initEnv, convert, K.isU8, strOf, load, store, fieldOf, append, room, fill, placeOf, splice, repl, chunks, Ty.val, Ty.agg, V.plain, H.row, H.ety, AObj.row, Nat.reduceAdd, ↓reduceIte, Nat.reduceEqDiff, Nat.reduceBEq, Nat.reduceBNe, Nat.reduceLT, Int.reduceToNat, Int.reduceEq, Int.reduceLT, Int.reduceLE, reduceCtorEq, Nat.reduceMul, Nat.reduceLeDiff, S_api_Node.enc_eq]
        refine ⟨_, (.refl _), ?_⟩
        refine leave_ok rfl (.bool _) ?_
        exact hK _ hq
      · rw [wp_seq]
        rw [wp_region]
        simp only [RC, RL, RM, ↓evs_eq, buildOk, lookup, lookV, update, elemOf, Option.isSome_map, unOp, wanted, aop, tkB, neD, Env.get, Env.put, Env.keep, putD, dstOk, ev, constV, nilSlice, V.demote, V.toOwn, V.cells, ty, R1.res, binOp, isShift, binOpT, isC, intOp, strOp, shiftOp, byteV, index, indexAddr, slice, bounds, hiB, loB, withB, maxV, minV, evs, pickV, lenV, builtin, initEnv, convert, K.isU8, strOf, load, store, fieldOf, append, room, fill, placeOf, splice, repl, chunks, Ty.val, Ty.agg, V.plain, H.row, H.ety, AObj.row, Nat.reduceAdd, ↓reduceIte, Nat.reduceEqDiff, Nat.reduceBEq, Nat.reduceBNe, Nat.reduceLT, Int.reduceToNat, Int.reduceEq, Int.reduceLT, Int.reduceLE, reduceCtorEq, Nat.reduceMul, Nat.reduceLeDiff, S_api_Node.enc_eq]
        rw [wp_block]
        refine loop_in ?_
        refine Wk.le (EnvLe.cons (.refl _) (EnvLe.cons (.refl _) (EnvLe.cons (.refl _) (EnvLe.cons (.refl _) (EnvLe.cons (.top _) (EnvLe.cons (.refl _) (EnvLe.cons (.refl _) (EnvLe.cons (.refl _) (EnvLe.cons (.refl _) (EnvLe.cons (.refl _) (EnvLe.cons (.refl _) EnvLe.nil))))))))))) ?_
        obtain ⟨K86, hK87, hq⟩ := R.post_cut hq
        refine loop_gen (acall_mono hp) (σ := V × V × Int × V × V) (fun s => [(0, .agg [.int .i64 x0.Kind, .str x0.Text, .int .i64 x0.N, .int .i64 x0.M, .int .i64 x0.A, .int .i64 x0.At, .str x0.Doc, .sl 8 (List.map S_api_Node.enc x0.Kids)]), (1, .agg [.int .i64 x1.Kind, .str x1.Text, .int .i64 x1.N, .int .i64 x1.M, .int .i64 x1.A, .int .i64 x1.At, .str x1.Doc, .sl 8 (List.map S_api_Node.enc x1.Kids)]), (2, .ref h.length 0), (3, .ref (h.length + 1) 0), (4, s.1), (5, s.2.1), (54, .bool x54m15), (57, .int .i64 (List.length x0.Kids : Int)), (58, .int .i64 s.2.2.1), (59, s.2.2.2.1), (72, s.2.2.2.2)]) (fun s => h ++ [.cells 24 [.int .i64 x0.Kind, .str x0.Text, .int .i64 x0.N, .int .i64 x0.M, .int .i64 x0.A, .int .i64 x0.At, .str x0.Doc, .sl 8 (List.map S_api_Node.enc x0.Kids)], .cells 24 [.int .i64 x1.Kind, .str x1.Text, .int .i64 x1.N, .int .i64 x1.M, .int .i64 x1.A, .int .i64 x1.At, .str x1.Doc, .sl 8 (List.map S_api_Node.enc x1.Kids)]]) (fun k s => (glossaryref07_same_l1 self_glossaryref07_same x0 x1 k s.2.2.1).post K86 X) (fun s hs => hs) (fun k107 s hq N hN88 => ?_) _ (_, _, 0, _, _) hq
        obtain ⟨y4_67, y5_67, x58_67, y59_67, y72_67⟩ := s
        try dsimp only at hq ⊢
        rw [glossaryref07_same_l1] at hq
        rw [wp_seq]
        rw [wp_region]
        simp only [RC, RL, RM, ↓evs_eq, buildOk, lookup, lookV, update, elemOf, Option.isSome_map, unOp, wanted, aop, tkB, neD, Env.get, Env.put, Env.keep, putD, dstOk, ev, constV, nilSlice, V.demote, V.toOwn, V.cells, ty, R1.res, binOp, isShift, binOpT, isC, intOp, strOp, shiftOp, byteV, index, indexAddr, slice, bounds, hiB, loB, withB, maxV, minV, evs, pickV, lenV, builtin, initEnv, convert, K.isU8, strOf, load, store, fieldOf, append, room, fill, placeOf, splice, repl, chunks, Ty.val, Ty.agg, V.plain, H.row, H.ety, AObj.row, Nat.reduceAdd, ↓reduceIte, Nat.reduceEqDiff, Nat.reduceBEq, Nat.reduceBNe, Nat.reduceLT, Int.reduceToNat, Int.reduceEq, Int.reduceLT, Int.reduceLE, reduceCtorEq, Nat.reduceMul, Nat.reduceLeDiff, S_api_Node.enc_eq]
        rw [wp_seq]
        rw [wp_cond]
        simp only [RC, RL, RM, ↓evs_eq, buildOk, lookup, lookV, update, elemOf, Option.isSome_map, unOp, wanted, aop, tkB, neD, Env.get, Env.put, Env.keep, putD, dstOk, ev, constV, nilSlice, V.demote, V.toOwn, V.cells, ty, R1.res, binOp, isShift, binOpT, isC, intOp, strOp, shiftOp, byteV, index, indexAddr, slice, bounds, hiB, loB, withB, maxV, minV, evs, pickV, lenV, builtin, initEnv, convert, K.isU8, strOf, load, store, fieldOf, append, room, fill, placeOf, splice, repl, chunks, Ty.val, Ty.agg, V.plain, H.row, H.ety, AObj.row, Nat.reduceAdd, ↓reduceIte, Nat.reduceEqDiff, Nat.reduceBEq, Nat.reduceBNe, Nat.reduceLT, Int.reduceToNat, Int.reduceEq, Int.reduceLT, Int.reduceLE, reduceCtorEq, Nat.reduceMul, Nat.reduceLeDiff, S_api_Node.enc_eq]
        by_cases hc89 : x58_67 < (List.length x0.Kids : Int)
        · replace hq := (R.post_if hq).1 hc89
          refine condK_t (congrArg V.bool (decide_eq_true hc89)) ?_
          try simp only [wp_skip, RC]
          refine Wk.same ?_
          try simp only [RC]
          rw [wp_seq]
          rw [wp_block]
          rw [wp_seq]
          rw [wp_region]
          simp only [RC, RL, RM, ↓evs_eq, buildOk, lookup, lookV, update, elemOf, Option.isSome_map, unOp, wanted, aop, tkB, neD, Env.get, Env.put, Env.keep, putD, dstOk, ev, constV, nilSlice, V.demote, V.toOwn, V.cells, ty, R1.res, binOp, isShift, binOpT, isC, intOp, strOp, shiftOp, byteV, index, indexAddr, slice, bounds, hiB, loB, withB, maxV, minV, evs, pickV, lenV, builtin, initEnv, convert, K.isU8, strOf, load, store, fieldOf, append, room, fill, placeOf, splice, repl, chunks, Ty.val, Ty.agg, V.plain, H.row, H.ety, AObj.row, Nat.reduceAdd, ↓reduceIte, Nat.reduceEqDiff, Nat.reduceBEq, Nat.reduceBNe, Nat.reduceLT, Int.reduceToNat, Int.reduceEq, Int.reduceLT, Int.reduceLE, reduceCtorEq, Nat.reduceMul, Nat.reduceLeDiff, S_api_Node.enc_eq]
          rw [wp_seq]
          refine wp_draw (acall_mono hp) (by kernel_rfl) (by rfl) ?_
          obtain ⟨g98, hq⟩ := R.guard hq
          obtain ⟨g100, hq⟩ := R.guard hq
          have e99 := map_gt (f := S_api_Node.enc) (l := x0.Kids) (i := x58_67) g98
          have e101 := map_gt (f := S_api_Node.enc) (l := x1.Kids) (i := x58_67) g100
          simp only [e99, e101, RC, RL, RM, ↓evs_eq, buildOk, lookup, lookV, update, elemOf, Option.isSome_map, unOp, wanted, aop, tkB, neD, Env.get, Env.put, Env.keep, putD, dstOk, ev, constV, nilSlice, V.demote, V.toOwn, V.cells, ty, R1.res, binOp, isShift, binOpT, isC, intOp, strOp, shiftOp, byteV, index, indexAddr, slice, bounds, hiB, loB, withB, maxV, minV, evs, pickV, lenV, builtin, initEnv, convert, K.isU8, strOf, load, store, fieldOf, append, room, fill, placeOf, splice, repl, chunks, Ty.val, Ty.agg, V.plain, H.row, H.ety, AObj.row, Nat.reduceAdd, ↓reduceIte, Nat.reduceEqDiff, Nat.reduceBEq, Nat.reduceBNe, Nat.reduceLT, Int.reduceToNat, Int.reduceEq, Int.reduceLT, Int.reduceLE, reduceCtorEq, Nat.reduceMul, Nat.reduceLeDiff, S_api_Node.enc_eq]
          repeat (with_reducible refine And.intro (by omega) ?_)
          obtain ⟨K104, hK105, hq⟩ := R.post_cut_sure hq
          obtain ⟨r102, hr106, hq⟩ := R.post_okf hq
          refine ⟨.bool r102, fun Q hQ => ih_glossaryref07_same (x0 := (gt x0.Kids x58_67)) (x1 := (gt x1.Kids x58_67)) (KK := fun a => a = r102) (X := fun _ => False) (by rw [hr106]; exact rfl) (fun a ha => by subst ha; exact hQ) (fun v hv => hv.elim), ?_⟩
          replace hq := hK105 _ hq
          simp only [RC, RL, RM, ↓evs_eq, buildOk, lookup, lookV, update, elemOf, Option.isSome_map, unOp, wanted, aop, tkB, neD, Env.get, Env.put, Env.keep, putD, dstOk, ev, constV, nilSlice, V.demote, V.toOwn, V.cells, ty, R1.res, binOp, isShift, binOpT, isC, intOp, strOp, shiftOp, byteV, index, indexAddr, slice, bounds, hiB, loB, withB, maxV, minV, evs, pickV, lenV, builtin, initEnv, convert, K.isU8, strOf, load, store, fieldOf, append, room, fill, placeOf, splice, repl, chunks, Ty.val, Ty.agg, V.plain, H.row, H.ety, AObj.row, Nat.reduceAdd, ↓reduceIte, Nat.reduceEqDiff, Nat.reduceBEq, Nat.reduceBNe, Nat.reduceLT, Int.reduceToNat, Int.reduceEq, Int.reduceLT, Int.reduceLE, reduceCtorEq, Nat.reduceMul, Nat.reduceLeDiff, S_api_Node.enc_eq]
          rw [wp_cond]
          simp only [RC, RL, RM, ↓evs_eq, buildOk, lookup, lookV, update, elemOf, Option.isSome_map, unOp, wanted, aop, tkB, neD, Env.get, Env.put, Env.keep, putD, dstOk, ev, constV, nilSlice, V.demote, V.toOwn, V.cells, ty, R1.res, binOp, isShift, binOpT, isC, intOp, strOp, shiftOp, byteV, index, indexAddr, slice, bounds, hiB, loB, withB, maxV, minV, evs, pickV, lenV, builtin, initEnv, convert, K.isU8, strOf, load, store, fieldOf, append, room, fill, placeOf, splice, repl, chunks, Ty.val, Ty.agg, V.plain, H.row, H.ety, AObj.row, Nat.reduceAdd, ↓reduceIte, Nat.reduceEqDiff, Nat.reduceBEq, Nat.reduceBNe, Nat.reduceLT, Int.reduceToNat, Int.reduceEq, Int.reduceLT, Int.reduceLE, reduceCtorEq, Nat.reduceMul, Nat.reduceLeDiff, S_api_Node.enc_eq]
          by_cases hc103 : r102 = true
          · replace hq := (R.post_if hq).1 hc103
            refine condK_f (congrArg (fun b => V.bool (!b)) (hc103)) ?_
            try simp only [wp_skip, RC]
            refine Wk.same ?_
            try simp only [RC]
            refine Wk.same ?_
            try simp only [RC]
            rw [wp_region]
            simp only [RC, RL, RM, ↓evs_eq, buildOk, lookup, lookV, update, elemOf, Option.isSome_map, unOp, wanted, aop, tkB, neD, Env.get, Env.put, Env.keep, putD, dstOk, ev, constV, nilSlice, V.demote, V.toOwn, V.cells, ty, R1.res, binOp, isShift, binOpT, isC, intOp, strOp, shiftOp, byteV, index, indexAddr, slice, bounds, hiB, loB, withB, maxV, minV, evs, pickV, lenV, builtin, initEnv, convert, K.isU8, strOf, load, store, fieldOf, append, room, fill, placeOf, splice, repl, chunks, Ty.val, Ty.agg, V.plain, H.row, H.ety, AObj.row, Nat.reduceAdd, ↓reduceIte, Nat.reduceEqDiff, Nat.reduceBEq, Nat.reduceBNe, Nat.reduceLT, Int.reduceToNat, Int.reduceEq, Int.reduceLT, Int.reduceLE, reduceCtorEq, Nat.reduceMul, Nat.reduceLeDiff, S_api_Node.enc_eq]
            refine Wk.le (EnvLe.cons (.refl _) (EnvLe.cons (.refl _) (EnvLe.cons (.refl _) (EnvLe.cons (.refl _) (EnvLe.cons (.refl _) (EnvLe.cons (.top _) (EnvLe.cons (.refl _) (EnvLe.cons (.refl _) (EnvLe.cons (.refl _) (EnvLe.cons (.top _) (EnvLe.cons (.top _) EnvLe.nil))))))))))) ?_
            exact hN88 (_, _, (IntKind.wrap .i64 (x58_67 + 1)), _, _) hq
          · replace hq := (R.post_if hq).2 hc103
            replace hc103 := eq_false_of_ne_true hc103
            refine condK_t (congrArg (fun b => V.bool (!b)) (hc103)) ?_
            rw [wp_seq]
            rw [wp_region]
            simp only [RC, RL, RM, ↓evs_eq, buildOk, lookup, lookV, update, elemOf, Option.isSome_map, unOp, wanted, aop, tkB, neD, Env.get, Env.put, Env.keep, putD, dstOk, ev, constV, nilSlice, V.demote, V.toOwn, V.cells, ty, R1.res, binOp, isShift, binOpT, isC, intOp, strOp, shiftOp, byteV, index, indexAddr, slice, bounds, hiB, loB, withB, maxV, minV, evs, pickV, lenV, builtin, initEnv, convert, K.isU8, strOf, load, store, fieldOf, append, room, fill, placeOf, splice, repl, chunks, Ty.val, Ty.agg, V.plain, H.row, H.ety, AObj.row, Nat.reduceAdd, ↓reduceIte, Nat.reduceEqDiff, Nat.reduceBEq, Nat.reduceBNe, Nat.reduceLT, Int.reduceToNat, Int.reduceEq, Int.reduceLT, Int.reduceLE, reduceCtorEq, Nat.reduceMul, Nat.reduceLeDiff, S_api_Node.enc_eq]
            rw [wp_ret]
            simp only [retQ, results, resultAll, resultOne, Nat.zero_add, RC, RL, RM, ↓evs_eq, buildOk, lookup, lookV, update, elemOf, Option.isSome_map, unOp, wanted, aop, tkB, neD, Env.get, Env.put, Env.keep, putD, dstOk, ev, constV, nilSlice, V.demote, V.toOwn, V.cells, ty, R1.res, binOp, isShift, binOpT, isC, intOp, strOp, shiftOp, byteV, index, indexAddr, slice, bounds, hiB, loB, withB, maxV, minV, evs, pickV, lenV, builtin, initEnv, convert, K.isU8, strOf, load, store, fieldOf, append, room, fill, placeOf, splice, repl, chunks, Ty.val, Ty.agg, V.plain, H.row, H.ety, AObj.row, Nat.reduceAdd, ↓reduceIte, Nat.reduceEqDiff, Nat.reduceBEq, Nat.reduceBNe, Nat.reduceLT, Int.reduceToNat, Int.reduceEq, Int.reduceLT, Int.reduceLE, reduceCtorEq, Nat.reduceMul, Nat.reduceLeDiff, S_api_Node.enc_eq]
            refine ⟨_, (.refl _), ?_⟩
            refine leave_ok rfl (.bool _) ?_
            replace hq := hK87 _ hq
            exact hK _ hq
        · replace hq := (R.post_if hq).2 hc89
          refine condK_f (congrArg V.bool (decide_eq_false hc89)) ?_
          rw [wp_exit]
          try simp only [↓reduceIte, Nat.reduceEqDiff, reduceCtorEq, if_false, if_true, eq_self, Nat.succ_ne_self, RC]
          replace hq := hK87 _ hq
          try dsimp only at hq
          refine Wk.le (EnvLe.cons (.refl _) (EnvLe.cons (.refl _) (EnvLe.cons (.refl _) (EnvLe.cons (.refl _) (EnvLe.cons (.refl _) (EnvLe.cons (.refl _) (EnvLe.cons (.refl _) (EnvLe.cons (.top _) (EnvLe.cons (.top _) (EnvLe.cons (.top _) (EnvLe.cons (.refl _) EnvLe.nil))))))))))) ?_
          try simp only [RC]
          exact hN66 (_, _, _, _, _, _) hq
  · rw [wp_region]
    simp only [RC, RL, RM, ↓evs_eq, buildOk, lookup, lookV, update, elemOf, Option.isSome_map, unOp, wanted, aop, tkB, neD, Env.get, Env.put, Env.keep, putD, dstOk, ev, constV, nilSlice, V.demote, V.toOwn, V.cells, ty, R1.res, binOp, isShift, binOpT, isC, intOp, strOp, shiftOp, byteV, index, indexAddr, slice, bounds, hiB, loB, withB, maxV, minV, evs, pickV, lenV, builtin, initEnv, convert, K.isU8, strOf, load, store, fieldOf, append, room, fill, placeOf, splice, repl, chunks, Ty.val, Ty.agg, V.plain, H.row, H.ety, AObj.row, Nat.reduceAdd, ↓reduceIte, Nat.reduceEqDiff, Nat.reduceBEq, Nat.reduceBNe, Nat.reduceLT, Int.reduceToNat, Int.reduceEq, Int.reduceLT, Int.reduceLE, reduceCtorEq, Nat.reduceMul, Nat.reduceLeDiff, S_api_Node.enc_eq]
    by_cases hc19 : x0.Kind = x1.Kind
    · replace hq := (R.post_if hq).1 hc19
      simp only [decide_eq_true hc19, RC, RL, RM, ↓evs_eq, buildOk, lookup, lookV, update, elemOf, Option.isSome_map, unOp, wanted, aop, tkB, neD, Env.get, Env.put, Env.keep, putD, dstOk, ev, constV, nilSlice, V.demote, V.toOwn, V.cells, ty, R1.res, binOp, isShift, binOpT, isC, intOp, strOp, shiftOp, byteV, index, indexAddr, slice, bounds, hiB, loB, withB, maxV, minV, evs, pickV, lenV, builtin, initEnv, convert, K.isU8, strOf, load, store, fieldOf, append, room, fill, placeOf, splice, repl, chunks, Ty.val, Ty.agg, V.plain, H.row, H.ety, AObj.row, Nat.reduceAdd, ↓reduceIte, Nat.reduceEqDiff, Nat.reduceBEq, Nat.reduceBNe, Nat.reduceLT, Int.reduceToNat, Int.reduceEq, Int.reduceLT, Int.reduceLE, reduceCtorEq, Nat.reduceMul, Nat.reduceLeDiff, S_api_Node.enc_eq]
      by_cases hc20 : x0.Text = x1.Text
      · replace hq := (R.post_if hq).1 hc20
        simp only [decide_eq_true hc20, RC, RL, RM, ↓evs_eq, buildOk, lookup, lookV, update, elemOf, Option.isSome_map, unOp, wanted, aop, tkB, neD, Env.get, Env.put, Env.keep, putD, dstOk, ev, constV, nilSlice, V.demote, V.toOwn, V.cells, ty, R1.res, binOp, isShift, binOpT, isC, intOp, strOp, shiftOp, byteV, index, indexAddr, slice, bounds, hiB, loB, withB, maxV, minV, evs, pickV, lenV, builtin, initEnv, convert, K.isU8, strOf, load, store, fieldOf, append, room, fill, placeOf, splice, repl, chunks, Ty.val, Ty.agg, V.plain, H.row, H.ety, AObj.row, Nat.reduceAdd, ↓reduceIte, Nat.reduceEqDiff, Nat.reduceBEq, Nat.reduceBNe, Nat.reduceLT, Int.reduceToNat, Int.reduceEq, Int.reduceLT, Int.reduceLE, reduceCtorEq, Nat.reduceMul, Nat.reduceLeDiff, S_api_Node.enc_eq]
        by_cases hc21 : x0.N = x1.N
        · replace hq := (R.post_if hq).1 hc21
          simp only [decide_eq_true hc21, RC, RL, RM, ↓evs_eq, buildOk, lookup, lookV, update, elemOf, Option.isSome_map, unOp, wanted, aop, tkB, neD, Env.get, Env.put, Env.keep, putD, dstOk, ev, constV, nilSlice, V.demote, V.toOwn, V.cells, ty, R1.res, binOp, isShift, binOpT, isC, intOp, strOp, shiftOp, byteV, index, indexAddr, slice, bounds, hiB, loB, withB, maxV, minV, evs, pickV, lenV, builtin, initEnv, convert, K.isU8, strOf, load, store, fieldOf, append, room, fill, placeOf, splice, repl, chunks, Ty.val, Ty.agg, V.plain, H.row, H.ety, AObj.row, Nat.reduceAdd, ↓reduceIte, Nat.reduceEqDiff, Nat.reduceBEq, Nat.reduceBNe, Nat.reduceLT, Int.reduceToNat, Int.reduceEq, Int.reduceLT, Int.reduceLE, reduceCtorEq, Nat.reduceMul, Nat.reduceLeDiff, S_api_Node.enc_eq]
          by_cases hc22 : x0.M = x1.M
          · replace hq := (R.post_if hq).1 hc22
            simp only [decide_eq_true hc22, RC, RL, RM, ↓evs_eq, buildOk, lookup, lookV, update, elemOf, Option.isSome_map, unOp, wanted, aop, tkB, neD, Env.get, Env.put, Env.keep, putD, dstOk, ev, constV, nilSlice, V.demote, V.toOwn, V.cells, ty, R1.res, binOp, isShift, binOpT, isC, intOp, strOp, shiftOp, byteV, index, indexAddr, slice, bounds, hiB, loB, withB, maxV, minV, evs, pickV, lenV, builtin, initEnv, convert, K.isU8, strOf, load, store, fieldOf, append, room, fill, placeOf, splice, repl, chunks, Ty.val, Ty.agg, V.plain, H.row, H.ety, AObj.row, Nat.reduceAdd, ↓reduceIte, Nat.reduceEqDiff, Nat.reduceBEq, Nat.reduceBNe, Nat.reduceLT, Int.reduceToNat, Int.reduceEq, Int.reduceLT, Int.reduceLE, reduceCtorEq, Nat.reduceMul, Nat.reduceLeDiff, S_api_Node.enc_eq]
            by_cases hc23 : x0.A = x1.A
            · replace hq := (R.post_if hq).1 hc23
              simp only [decide_eq_true hc23, RC, RL, RM, ↓evs_eq, buildOk, lookup, lookV, update, elemOf, Option.isSome_map, unOp, wanted, aop, tkB, neD, Env.get, Env.put, Env.keep, putD, dstOk, ev, constV, nilSlice, V.demote, V.toOwn, V.cells, ty, R1.res, binOp, isShift, binOpT, isC, intOp, strOp, shiftOp, byteV, index, indexAddr, slice, bounds, hiB, loB, withB, maxV, minV, evs, pickV, lenV, builtin, initEnv, convert, K.isU8, strOf, load, store, fieldOf, append, room, fill, placeOf, splice, repl, chunks, Ty.val, Ty.agg, V.plain, H.row, H.ety, AObj.row, Nat.reduceAdd, ↓reduceIte, Nat.reduceEqDiff, Nat.reduceBEq, Nat.reduceBNe, Nat.reduceLT, Int.reduceToNat, Int.reduceEq, Int.reduceLT, Int.reduceLE, reduceCtorEq, Nat.reduceMul, Nat.reduceLeDiff, S_api_Node.enc_eq]
              by_cases hc24 : x0.Doc = x1.Doc
              · replace hq := (R.post_if hq).1 hc24
                simp only [decide_eq_true hc24, RC, RL, RM, ↓evs_eq, buildOk, lookup, lookV, update, elemOf, Option.isSome_map, unOp, wanted, aop, tkB, neD, Env.get, Env.put, Env.keep, putD, dstOk, ev, constV, nilSlice, V.demote, V.toOwn, V.cells, ty, R1.res, binOp, isShift, binOpT, isC, intOp, strOp, shiftOp, byteV, index, indexAddr, slice, bounds, hiB, loB, withB, maxV, minV, evs, pickV, lenV, builtin, initEnv, convert, K.isU8, strOf, load, store, fieldOf, append, room, fill, placeOf, splice, repl, chunks, Ty.val, Ty.agg, V.plain, H.row, H.ety, AObj.row, Nat.reduceAdd, ↓reduceIte, Nat.reduceEqDiff, Nat.reduceBEq, Nat.reduceBNe, Nat.reduceLT, Int.reduceToNat, Int.reduceEq, Int.reduceLT, Int.reduceLE, reduceCtorEq, Nat.reduceMul, Nat.reduceLeDiff, S_api_Node.enc_eq]
                exact hN18 (!(decide ((List.length x0.Kids : Int) = (List.length x1.Kids : Int)))) hq
              · replace hq := (R.post_if hq).2 hc24
                simp only [decide_eq_false hc24, RC, RL, RM, ↓evs_eq, buildOk, lookup, lookV, update, elemOf, Option.isSome_map, unOp, wanted, aop, tkB, neD, Env.get, Env.put, Env.keep, putD, dstOk, ev, constV, nilSlice, V.demote, V.toOwn, V.cells, ty, R1.res, binOp, isShift, binOpT, isC, intOp, strOp, shiftOp, byteV, index, indexAddr, slice, bounds, hiB, loB, withB, maxV, minV, evs, pickV, lenV, builtin, initEnv, convert, K.isU8, strOf, load, store, fieldOf, append, room, fill, placeOf, splice, repl, chunks, Ty.val, Ty.agg, V.plain, H.row, H.ety, AObj.row, Nat.reduceAdd, ↓reduceIte, Nat.reduceEqDiff, Nat.reduceBEq, Nat.reduceBNe, Nat.reduceLT, Int.reduceToNat, Int.reduceEq, Int.reduceLT, Int.reduceLE, reduceCtorEq, Nat.reduceMul, Nat.reduceLeDiff, S_api_Node.enc_eq]
                exact hN18 true hq
            · replace hq := (R.post_if hq).2 hc23
              simp only [decide_eq_false hc23, RC, RL, RM, ↓evs_eq, buildOk, lookup, lookV, update, elemOf, Option.isSome_map, unOp, wanted, aop, tkB, neD, Env.get, Env.put, Env.keep, putD, dstOk, ev, constV, nilSlice, V.demote, V.toOwn, V.cells, ty, R1.res, binOp, isShift, binOpT, isC, intOp, strOp, shiftOp, byteV, index, indexAddr, slice, bounds, hiB, loB, withB, maxV, minV, evs, pickV, lenV, builtin, initEnv, convert, K.isU8, strOf, load, store, fieldOf, append, room, fill, placeOf, splice, repl, chunks, Ty.val, Ty.agg, V.plain, H.row, H.ety, AObj.row, Nat.reduceAdd, ↓reduceIte, Nat.reduceEqDiff, Nat.reduceBEq, Nat.reduceBNe, Nat.reduceLT, Int.reduceToNat, Int.reduceEq, Int.reduceLT, Int.reduceLE, reduceCtorEq, Nat.reduceMul, Nat.reduceLeDiff, S_api_Node.enc_eq]
              exact hN18 true hq
          · replace hq := (R.post_if hq).2 hc22
            simp only [decide_eq_false hc22, RC, RL, RM, ↓evs_eq, buildOk, lookup, lookV, update, elemOf, Option.isSome_map, unOp, wanted, aop, tkB, neD, Env.get, Env.put, Env.keep, putD, dstOk, ev, constV, nilSlice, V.demote, V.toOwn, V.cells, ty, R1.res, binOp, isShift, binOpT, isC, intOp, strOp, shiftOp, byteV, index, indexAddr, slice, bounds, hiB, loB, withB, maxV, minV, evs, pickV, lenV, builtin, initEnv, convert, K.isU8, strOf, load, store, fieldOf, append, room, fill, placeOf, splice, repl, chunks, Ty.val, Ty.agg, V.plain, H.row, H.ety, AObj.row, Nat.reduceAdd, ↓reduceIte, Nat.reduceEqDiff, Nat.reduceBEq, Nat.reduceBNe, Nat.reduceLT, Int.reduceToNat, Int.reduceEq, Int.reduceLT, Int.reduceLE, reduceCtorEq, Nat.reduceMul, Nat.reduceLeDiff, S_api_Node.enc_eq]
            exact hN18 true hq
        · replace hq := (R.post_if hq).2 hc21
          simp only [decide_eq_false hc21, RC, RL, RM, ↓evs_eq, buildOk, lookup, lookV, update, elemOf, Option.isSome_map, unOp, wanted, aop, tkB, neD, Env.get, Env.put, Env.keep, putD, dstOk, ev, constV, nilSlice, V.demote, V.toOwn, V.cells, ty, R1.res, binOp, isShift, binOpT, isC, intOp, strOp, shiftOp, byteV, index, indexAddr, slice, bounds, hiB, loB, withB, maxV, minV, evs, pickV, lenV, builtin, initEnv, convert, K.isU8, strOf, load, store, fieldOf, append, room, fill, placeOf, splice, repl, chunks, Ty.val, Ty.agg, V.plain, H.row, H.ety, AObj.row, Nat.reduceAdd, ↓reduceIte, Nat.reduceEqDiff, Nat.reduceBEq, Nat.reduceBNe, Nat.reduceLT, Int.reduceToNat, Int.reduceEq, Int.reduceLT, Int.reduceLE, reduceCtorEq, Nat.reduceMul, Nat.reduceLeDiff, S_api_Node.enc_eq]
          exact hN18 true hq
      · replace hq := (R.post_if hq).2 hc20
        simp only [decide_eq_false hc20, RC, RL, RM, ↓evs_eq, buildOk, lookup, lookV, update, elemOf, Option.isSome_map, unOp, wanted, aop, tkB, neD, Env.get, Env.put, Env.keep, putD, dstOk, ev, constV, nilSlice, V.demote, V.toOwn, V.cells, ty, R1.res, binOp, isShift, binOpT, isC, intOp, strOp, shiftOp, byteV, index, indexAddr, slice, bounds, hiB, loB, withB, maxV, minV, evs, pickV, lenV, builtin, initEnv, convert, K.isU8, strOf, load, store, fieldOf, append, room, fill, placeOf, splice, repl, chunks, Ty.val, Ty.agg, V.plain, H.row, H.ety, AObj.row, Nat.reduceAdd, ↓reduceIte, Nat.reduceEqDiff, Nat.reduceBEq, Nat.reduceBNe, Nat.reduceLT, Int.reduceToNat, Int.reduceEq, Int.reduceLT, Int.reduceLE, reduceCtorEq, Nat.reduceMul, Nat.reduceLeDiff, S_api_Node.enc_eq]
        exact hN18 true hq
    · replace hq := (R.post_if hq).2 hc19
      simp only [decide_eq_false hc19, RC, RL, RM, ↓evs_eq, buildOk, lookup, lookV, update, elemOf, Option.isSome_map, unOp, wanted, aop, tkB, neD, Env.get, Env.put, Env.keep, putD, dstOk, ev, constV, nilSlice, V.demote, V.toOwn, V.cells, ty, R1.res, binOp, isShift, binOpT, isC, intOp, strOp, shiftOp, byteV, index, indexAddr, slice, bounds, hiB, loB, withB, maxV, minV, evs, pickV, lenV, builtin, initEnv, convert, K.isU8, strOf, load, store, fieldOf, append, room, fill, placeOf, splice, repl, chunks, Ty.val, Ty.agg, V.plain, H.row, H.ety, AObj.row, Nat.reduceAdd, ↓reduceIte, Nat.reduceEqDiff, Nat.reduceBEq, Nat.reduceBNe, Nat.reduceLT, Int.reduceToNat, Int.reduceEq, Int.reduceLT, Int.reduceLE, reduceCtorEq, Nat.reduceMul, Nat.reduceLeDiff, S_api_Node.enc_eq]
      exact hN18 true hq
theorem glossaryref07_same_ih (k : Nat) : ∀ {h : H} {x0 : S_api_Node} {x1 : S_api_Node} {Q : Out → H → Prop} {KK : (Bool) → Prop} {X : V → Prop} (hq : (glossaryref07_same_n k x0 x1).post KK X) (hK : ∀ r, KK r → Q (.ret (.bool r)) h) (hX : ∀ v, X v → V.Cl 0 v ∧ Q (.panic v) h), CA qprim 25 [.agg [.int .i64 x0.Kind, .str x0.Text, .int .i64 x0.N, .int .i64 x0.M, .int .i64 x0.A, .int .i64 x0.At, .str x0.Doc, .sl 8 (List.map S_api_Node.enc x0.Kids)], .agg [.int .i64 x1.Kind, .str x1.Text, .int .i64 x1.N, .int .i64 x1.M, .int .i64 x1.A, .int .i64 x1.At, .str x1.Doc, .sl 8 (List.map S_api_Node.enc x1.Kids)]] h Q := by
  induction k with
  | zero => intro h x0 x1 Q KK X hq; exact False.elim hq
  | succ k ih => intro h x0 x1 Q KK X hq hK hX; exact glossaryref07_same_b_call (ih_glossaryref07_same := ih) hq hK hX
theorem glossaryref07_same_call {h : H} {x0 : S_api_Node} {x1 : S_api_Node} {Q : Out → H → Prop} {KK : (Bool) → Prop} {X : V → Prop} (hq : (glossaryref07_same x0 x1).post KK X) (hK : ∀ r, KK r → Q (.ret (.bool r)) h) (hX : ∀ v, X v → V.Cl 0 v ∧ Q (.panic v) h) : CA qprim 25 [.agg [.int .i64 x0.Kind, .str x0.Text, .int .i64 x0.N, .int .i64 x0.M, .int .i64 x0.A, .int .i64 x0.At, .str x0.Doc, .sl 8 (List.map S_api_Node.enc x0.Kids)], .agg [.int .i64 x1.Kind, .str x1.Text, .int .i64 x1.N, .int .i64 x1.M, .int .i64 x1.A, .int .i64 x1.At, .str x1.Doc, .sl 8 (List.map S_api_Node.enc x1.Kids)]] h Q := glossaryref07_same_ih Many hq hK hX

def glossaryref07_Same (x0 : S_api_Node) (x1 : S_api_Node) : R (Bool) :=
  ((glossaryref07_Deep x0).bind fun r16 => if r16 ≤ 64 then ((glossaryref07_Deep x1).bind fun r18 => if r18 ≤ 64 then ((glossaryref07_same x0 x1).bind fun r20 => R.ok r20) else (R.ok false)) else (R.ok false)).bind fun x4m12 => R.ok x4m12
theorem glossaryref07_Same_call {h : H} {x0 : S_api_Node} {x1 : S_api_Node} {Q : Out → H → Prop} {KK : (Bool) → Prop} {X : V → Prop} (hq : (glossaryref07_Same x0 x1).post KK X) (hK : ∀ r, KK r → Q (.ret (.bool r)) h) (hX : ∀ v, X v → V.Cl 0 v ∧ Q (.panic v) h) : CA qprim 14 [.agg [.int .i64 x0.Kind, .str x0.Text, .int .i64 x0.N, .int .i64 x0.M, .int .i64 x0.A, .int .i64 x0.At, .str x0.Doc, .sl 8 (List.map S_api_Node.enc x0.Kids)], .agg [.int .i64 x1.Kind, .str x1.Text, .int .i64 x1.N, .int .i64 x1.M, .int .i64 x1.A, .int .i64 x1.At, .str x1.Doc, .sl 8 (List.map S_api_Node.enc x1.Kids)]] h Q := by
  refine acalln hp Tryd.func14 rfl (by kernel_rfl) (n := 18) rfl (rs := [.tmp 4]) rfl [0, 1, 2, 3, 4] [] true (by simp) ?_
  unfold glossaryref07_Same at hq
  simp only [initEnv, List.map_cons, List.map_nil, List.getD_cons_zero, List.getD_cons_succ, List.getD_nil, V.demote]
  rw [wp_seq]
  rw [wp_region]
  simp only [RC, RL, RM, ↓evs_eq, buildOk, lookup, lookV, update, elemOf, Option.isSome_map, unOp, wanted, aop, tkB, neD, Env.get, Env.put, Env.keep, putD, dstOk, ev, constV, nilSlice, V.demote, V.toOwn, V.cells, ty, R1.res, binOp, isShift, binOpT, isC, intOp, strOp, shiftOp, byteV, index, indexAddr, slice, bounds, hiB, loB, withB, maxV, minV, evs, pickV, lenV, builtin, initEnv, convert, K.isU8, strOf, load, store, fieldOf, append, room, fill, placeOf, splice, repl, chunks, Ty.val, Ty.agg, V.plain, H.row, H.ety, AObj.row, Nat.reduceAdd, ↓reduceIte, Nat.reduceEqDiff, Nat.reduceBEq, Nat.reduceBNe, Nat.reduceLT, Int.reduceToNat, Int.reduceEq, Int.reduceLT, Int.reduceLE, reduceCtorEq, Nat.reduceMul, Nat.reduceLeDiff, S_api_Node.enc_eq]
  obtain ⟨K13, hK14, hq⟩ := R.post_cut hq
  refine seq_gen (acall_mono hp) (σ := Bool) (fun s => [(0, .agg [.int .i64 x0.Kind, .str x0.Text, .int .i64 x0.N, .int .i64 x0.M, .int .i64 x0.A, .int .i64 x0.At, .str x0.Doc, .sl 8 (List.map S_api_Node.enc x0.Kids)]), (1, .agg [.int .i64 x1.Kind, .str x1.Text, .int .i64 x1.N, .int .i64 x1.M, .int .i64 x1.A, .int .i64 x1.At, .str x1.Doc, .sl 8 (List.map S_api_Node.enc x1.Kids)]), (2, .ref h.length 0), (3, .ref (h.length + 1) 0), (4, .bool s)]) (fun s => h ++ [.cells 24 [.int .i64 x0.Kind, .str x0.Text, .int .i64 x0.N, .int .i64 x0.M, .int .i64 x0.A, .int .i64 x0.At, .str x0.Doc, .sl 8 (List.map S_api_Node.enc x0.Kids)], .cells 24 [.int .i64 x1.Kind, .str x1.Text, .int .i64 x1.N, .int .i64 x1.M, .int .i64 x1.A, .int .i64 x1.At, .str x1.Doc, .sl 8 (List.map S_api_Node.enc x1.Kids)]]) (fun s => K13 s) (fun x4m12 hq => ?_) (fun N hN15 => ?_)
  · replace hq := hK14 _ hq
    try dsimp only at hq ⊢
    rw [wp_ret]
    simp only [retQ, results, resultAll, resultOne, Nat.zero_add, RC, RL, RM, ↓evs_eq, buildOk, lookup, lookV, update, elemOf, Option.isSome_map, unOp, wanted, aop, tkB, neD, Env.get, Env.put, Env.keep, putD, dstOk, ev, constV, nilSlice, V.demote, V.toOwn, V.cells, ty, R1.res, binOp, isShift, binOpT, isC, intOp, strOp, shiftOp, byteV, index, indexAddr, slice, bounds, hiB, loB, withB, maxV, minV, evs, pickV, lenV, builtin, initEnv, convert, K.isU8, strOf, load, store, fieldOf, append, room, fill, placeOf, splice, repl, chunks, Ty.val, Ty.agg, V.plain, H.row, H.ety, AObj.row, Nat.reduceAdd, ↓reduceIte, Nat.reduceEqDiff, Nat.reduceBEq, Nat.reduceBNe, Nat.reduceLT, Int.reduceToNat, Int.reduceEq, Int.reduceLT, Int.reduceLE, reduceCtorEq, Nat.reduceMul, Nat.reduceLeDiff, S_api_Node.enc_eq]
    refine ⟨_, (.refl _), ?_⟩
    refine leave_ok rfl (.bool _) ?_
    exact hK _ hq
  · rw [wp_region]
    simp only [RC, RL, RM, ↓evs_eq, buildOk, lookup, lookV, update, elemOf, Option.isSome_map, unOp, wanted, aop, tkB, neD, Env.get, Env.put, Env.keep, putD, dstOk, ev, constV, nilSlice, V.demote, V.toOwn, V.cells, ty, R1.res, binOp, isShift, binOpT, isC, intOp, strOp, shiftOp, byteV, index, indexAddr, slice, bounds, hiB, loB, withB, maxV, minV, evs, pickV, lenV, builtin, initEnv, convert, K.isU8, strOf, load, store, fieldOf, append, room, fill, placeOf, splice, repl, chunks, Ty.val, Ty.agg, V.plain, H.row, H.ety, AObj.row, Nat.reduceAdd, ↓reduceIte, Nat.reduceEqDiff, Nat.reduceBEq, Nat.reduceBNe, Nat.reduceLT, Int.reduceToNat, Int.reduceEq, Int.reduceLT, Int.reduceLE, reduceCtorEq, Nat.reduceMul, Nat.reduceLeDiff, S_api_Node.enc_eq]
    obtain ⟨K25, hK26, hq⟩ := R.post_cut hq
    refine glossaryref07_Deep_call (x0 := x0) hq (fun r16 hq => ?_) (fun v hv => ⟨(hX v hv).1, ?_⟩)
    · replace hq := hK26 _ hq
      simp only [RC, RL, RM, ↓evs_eq, buildOk, lookup, lookV, update, elemOf, Option.isSome_map, unOp, wanted, aop, tkB, neD, Env.get, Env.put, Env.keep, putD, dstOk, ev, constV, nilSlice, V.demote, V.toOwn, V.cells, ty, R1.res, binOp, isShift, binOpT, isC, intOp, strOp, shiftOp, byteV, index, indexAddr, slice, bounds, hiB, loB, withB, maxV, minV, evs, pickV, lenV, builtin, initEnv, convert, K.isU8, strOf, load, store, fieldOf, append, room, fill, placeOf, splice, repl, chunks, Ty.val, Ty.agg, V.plain, H.row, H.ety, AObj.row, Nat.reduceAdd, ↓reduceIte, Nat.reduceEqDiff, Nat.reduceBEq, Nat.reduceBNe, Nat.reduceLT, Int.reduceToNat, Int.reduceEq, Int.reduceLT, Int.reduceLE, reduceCtorEq, Nat.reduceMul, Nat.reduceLeDiff, S_api_Node.enc_eq]
      by_cases hc17 : r16 ≤ 64
      · replace hq := (R.post_if hq).1 hc17
        simp only [decide_eq_true hc17, RC, RL, RM, ↓evs_eq, buildOk, lookup, lookV, update, elemOf, Option.isSome_map, unOp, wanted, aop, tkB, neD, Env.get, Env.put, Env.keep, putD, dstOk, ev, constV, nilSlice, V.demote, V.toOwn, V.cells, ty, R1.res, binOp, isShift, binOpT, isC, intOp, strOp, shiftOp, byteV, index, indexAddr, slice, bounds, hiB, loB, withB, maxV, minV, evs, pickV, lenV, builtin, initEnv, convert, K.isU8, strOf, load, store, fieldOf, append, room, fill, placeOf, splice, repl, chunks, Ty.val, Ty.agg, V.plain, H.row, H.ety, AObj.row, Nat.reduceAdd, ↓reduceIte, Nat.reduceEqDiff, Nat.reduceBEq, Nat.reduceBNe, Nat.reduceLT, Int.reduceToNat, Int.reduceEq, Int.reduceLT, Int.reduceLE, reduceCtorEq, Nat.reduceMul, Nat.reduceLeDiff, S_api_Node.enc_eq]
        obtain ⟨K23, hK24, hq⟩ := R.post_cut hq
        refine glossaryref07_Deep_call (x0 := x1) hq (fun r18 hq => ?_) (fun v hv => ⟨(hX v hv).1, ?_⟩)
        · replace hq := hK24 _ hq
          simp only [RC, RL, RM, ↓evs_eq, buildOk, lookup, lookV, update, elemOf, Option.isSome_map, unOp, wanted, aop, tkB, neD, Env.get, Env.put, Env.keep, putD, dstOk, ev, constV, nilSlice, V.demote, V.toOwn, V.cells, ty, R1.res, binOp, isShift, binOpT, isC, intOp, strOp, shiftOp, byteV, index, indexAddr, slice, bounds, hiB, loB, withB, maxV, minV, evs, pickV, lenV, builtin, initEnv, convert, K.isU8, strOf, load, store, fieldOf, append, room, fill, placeOf, splice, repl, chunks, Ty.val, Ty.agg, V.plain, H.row, H.ety, AObj.row, Nat.reduceAdd, ↓reduceIte, Nat.reduceEqDiff, Nat.reduceBEq, Nat.reduceBNe, Nat.reduceLT, Int.reduceToNat, Int.reduceEq, Int.reduceLT, Int.reduceLE, reduceCtorEq, Nat.reduceMul, Nat.reduceLeDiff, S_api_Node.enc_eq]
          by_cases hc19 : r18 ≤ 64
          · replace hq := (R.post_if hq).1 hc19
            simp only [decide_eq_true hc19, RC, RL, RM, ↓evs_eq, buildOk, lookup, lookV, update, elemOf, Option.isSome_map, unOp, wanted, aop, tkB, neD, Env.get, Env.put, Env.keep, putD, dstOk, ev, constV, nilSlice, V.demote, V.toOwn, V.cells, ty, R1.res, binOp, isShift, binOpT, isC, intOp, strOp, shiftOp, byteV, index, indexAddr, slice, bounds, hiB, loB, withB, maxV, minV, evs, pickV, lenV, builtin, initEnv, convert, K.isU8, strOf, load, store, fieldOf, append, room, fill, placeOf, splice, repl, chunks, Ty.val, Ty.agg, V.plain, H.row, H.ety, AObj.row, Nat.reduceAdd, ↓reduceIte, Nat.reduceEqDiff, Nat.reduceBEq, Nat.reduceBNe, Nat.reduceLT, Int.reduceToNat, Int.reduceEq, Int.reduceLT, Int.reduceLE, reduceCtorEq, Nat.reduceMul, Nat.reduceLeDiff, S_api_Node.enc_eq]
            obtain ⟨K21, hK22, hq⟩ := R.post_cut hq
            refine glossaryref07_same_call (x0 := x0) (x1 := x1) hq (fun r20 hq => ?_) (fun v hv => ⟨(hX v hv).1, ?_⟩)
            · replace hq := hK22 _ hq
              simp only [RC, RL, RM, ↓evs_eq, buildOk, lookup, lookV, update, elemOf, Option.isSome_map, unOp, wanted, aop, tkB, neD, Env.get, Env.put, Env.keep, putD, dstOk, ev, constV, nilSlice, V.demote, V.toOwn, V.cells, ty, R1.res, binOp, isShift, binOpT, isC, intOp, strOp, shiftOp, byteV, index, indexAddr, slice, bounds, hiB, loB, withB, maxV, minV, evs, pickV, lenV, builtin, initEnv, convert, K.isU8, strOf, load, store, fieldOf, append, room, fill, placeOf, splice, repl, chunks, Ty.val, Ty.agg, V.plain, H.row, H.ety, AObj.row, Nat.reduceAdd, ↓reduceIte, Nat.reduceEqDiff, Nat.reduceBEq, Nat.reduceBNe, Nat.reduceLT, Int.reduceToNat, Int.reduceEq, Int.reduceLT, Int.reduceLE, reduceCtorEq, Nat.reduceMul, Nat.reduceLeDiff, S_api_Node.enc_eq]
              exact hN15 r20 hq
            · simp only [RC, retQ, ↓reduceIte, Bool.false_eq_true]
              exact leaveP_ok ((hX _ hv).1.mono (Nat.zero_le _)) (hX _ hv).2
          · replace hq := (R.post_if hq).2 hc19
            simp only [decide_eq_false hc19, RC, RL, RM, ↓evs_eq, buildOk, lookup, lookV, update, elemOf, Option.isSome_map, unOp, wanted, aop, tkB, neD, Env.get, Env.put, Env.keep, putD, dstOk, ev, constV, nilSlice, V.demote, V.toOwn, V.cells, ty, R1.res, binOp, isShift, binOpT, isC, intOp, strOp, shiftOp, byteV, index, indexAddr, slice, bounds, hiB, loB, withB, maxV, minV, evs, pickV, lenV, builtin, initEnv, convert, K.isU8, strOf, load, store, fieldOf, append, room, fill, placeOf, splice, repl, chunks, Ty.val, Ty.agg, V.plain, H.row, H.ety, AObj.row, Nat.reduceAdd, ↓reduceIte, Nat.reduceEqDiff, Nat.reduceBEq, Nat.reduceBNe, Nat.reduceLT, Int.reduceToNat, Int.reduceEq, Int.reduceLT, Int.reduceLE, reduceCtorEq, Nat.reduceMul, Nat.reduceLeDiff, S_api_Node.enc_eq]
            exact hN15 false hq
        · simp only [RC, retQ, ↓reduceIte, Bool.false_eq_true]
          exact leaveP_ok ((hX _ hv).1.mono (Nat.zero_le _)) (hX _ hv).2
      · replace hq := (R.post_if hq).2 hc17
        simp only [decide_eq_false hc17, RC, RL, RM, ↓evs_eq, buildOk, lookup, lookV, update, elemOf, Option.isSome_map, unOp, wanted, aop, tkB, neD, Env.get, Env.put, Env.keep, putD, dstOk, ev, constV, nilSlice, V.demote, V.toOwn, V.cells, ty, R1.res, binOp, isShift, binOpT, isC, intOp, strOp, shiftOp, byteV, index, indexAddr, slice, bounds, hiB, loB, withB, maxV, minV, evs, pickV, lenV, builtin, initEnv, convert, K.isU8, strOf, load, store, fieldOf, append, room, fill, placeOf, splice, repl, chunks, Ty.val, Ty.agg, V.plain, H.row, H.ety, AObj.row, Nat.reduceAdd, ↓reduceIte, Nat.reduceEqDiff, Nat.reduceBEq, Nat.reduceBNe, Nat.reduceLT, Int.reduceToNat, Int.reduceEq, Int.reduceLT, Int.reduceLE, reduceCtorEq, Nat.reduceMul, Nat.reduceLeDiff, S_api_Node.enc_eq]
        exact hN15 false hq
    · simp only [RC, retQ, ↓reduceIte, Bool.false_eq_true]
      exact leaveP_ok ((hX _ hv).1.mono (Nat.zero_le _)) (hX _ hv).2
end Go.Proofs.YtnpobhbpbefciaaDoor.Pv
