/- Functions of the program, as plain Lean functions, and that the code comes to them: printed by gen.py. -/
import Derived.Test.YtnpobhbpbefciaaDoorG0
set_option linter.unusedVariables false
set_option linter.unusedSimpArgs false
set_option maxHeartbeats 4000000
set_option maxRecDepth 10000
namespace Go.Proofs.YtnpobhbpbefciaaDoor.Pv
open Go Go.Proofs

def glossaryref07_count_j0 (x1_55 : Int) : R (Int) :=
  R.ok x1_55
def glossaryref07_count_l1 (self_glossaryref07_count : S_api_Node → Int → R (Int)) (x0 : S_api_Node) : Nat → Int → Int → R ((Int) ⊕ (Int))
  | 0, _, _ => R.stuck
  | k + 1, x1_70, x14_70 => if x14_70 < (List.length x0.Kids : Int) then (if 0 ≤ x14_70 ∧ x14_70 < (List.length x0.Kids : Int) then ((self_glossaryref07_count (gt x0.Kids x14_70) x1_70).bind fun r94 => if (20000 : Int) < r94 then (R.ok (.inr 30000)) else (glossaryref07_count_l1 self_glossaryref07_count x0 k r94 (IntKind.wrap .i64 (x14_70 + 1)))) else R.stuck) else (R.ok (.inl x1_70))
def glossaryref07_count_b (self_glossaryref07_count : S_api_Node → Int → R (Int)) (x0 : S_api_Node) (x1 : Int) : R (Int) :=
  if (20000 : Int) < (IntKind.wrap .i64 (x1 + 1)) then (R.ok 30000) else ((glossaryref07_count_l1 self_glossaryref07_count x0 Many (IntKind.wrap .i64 (x1 + 1)) 0).bind fun | (.inl x1p99) => glossaryref07_count_j0 x1p99 | (.inr rp100) => R.ok rp100)
def glossaryref07_count_n : Nat → S_api_Node → Int → R (Int)
  | 0 => fun _ _ => R.stuck
  | k + 1 => glossaryref07_count_b (glossaryref07_count_n k)
def glossaryref07_count (x0 : S_api_Node) (x1 : Int) : R (Int) := glossaryref07_count_n Many x0 x1
theorem glossaryref07_count_b_call {self_glossaryref07_count : S_api_Node → Int → R (Int)} (ih_glossaryref07_count : ∀ {h : H} {x0 : S_api_Node} {x1 : Int} {Q : Out → H → Prop} {KK : (Int) → Prop} {X : V → Prop} (hq : (self_glossaryref07_count x0 x1).post KK X) (hK : ∀ r, KK r → Q (.ret (.int .i64 r)) h) (hX : ∀ v, X v → V.Cl 0 v ∧ Q (.panic v) h), CA qprim 21 [.agg [.int .i64 x0.Kind, .str x0.Text, .int .i64 x0.N, .int .i64 x0.M, .int .i64 x0.A, .int .i64 x0.At, .str x0.Doc, .sl 8 (List.map S_api_Node.enc x0.Kids)], .int .i64 x1] h Q) {h : H} {x0 : S_api_Node} {x1 : Int} {Q : Out → H → Prop} {KK : (Int) → Prop} {X : V → Prop} (hq : (glossaryref07_count_b self_glossaryref07_count x0 x1).post KK X) (hK : ∀ r, KK r → Q (.ret (.int .i64 r)) h) (hX : ∀ v, X v → V.Cl 0 v ∧ Q (.panic v) h) : CA qprim 21 [.agg [.int .i64 x0.Kind, .str x0.Text, .int .i64 x0.N, .int .i64 x0.M, .int .i64 x0.A, .int .i64 x0.At, .str x0.Doc, .sl 8 (List.map S_api_Node.enc x0.Kids)], .int .i64 x1] h Q := by
  refine acalln hp Tryd.func21 rfl (by kernel_rfl) (n := 25) rfl (rs := [.tmp 4]) rfl [0, 1, 2, 4, 6, 10, 12, 13, 14, 15, 22] [] true (by simp) ?_
  unfold glossaryref07_count_b at hq
  simp only [initEnv, List.map_cons, List.map_nil, List.getD_cons_zero, List.getD_cons_succ, List.getD_nil, V.demote]
  rw [wp_seq]
  rw [wp_region]
  simp only [RC, RL, RM, ↓evs_eq, buildOk, lookup, lookV, update, elemOf, Option.isSome_map, unOp, wanted, aop, tkB, neD, Env.get, Env.put, Env.keep, putD, dstOk, ev, constV, nilSlice, V.demote, V.toOwn, V.cells, ty, R1.res, binOp, isShift, binOpT, isC, intOp, strOp, shiftOp, byteV, index, indexAddr, slice, bounds, hiB, loB, withB, maxV, minV, evs, pickV, lenV, builtin, initEnv, convert, K.isU8, strOf, load, store, fieldOf, append, room, fill, placeOf, splice, repl, chunks, Ty.val, Ty.agg, V.plain, H.row, H.ety, AObj.row, Nat.reduceAdd, ↓reduceIte, Nat.reduceEqDiff, Nat.reduceBEq, Nat.reduceBNe, Nat.reduceLT, Int.reduceToNat, Int.reduceEq, Int.reduceLT, Int.reduceLE, reduceCtorEq, Nat.reduceMul, Nat.reduceLeDiff, S_api_Node.enc_eq]
  rw [wp_seq]
  rw [wp_region]
  simp only [RC, RL, RM, ↓evs_eq, buildOk, lookup, lookV, update, elemOf, Option.isSome_map, unOp, wanted, aop, tkB, neD, Env.get, Env.put, Env.keep, putD, dstOk, ev, constV, nilSlice, V.demote, V.toOwn, V.cells, ty, R1.res, binOp, isShift, binOpT, isC, intOp, strOp, shiftOp, byteV, index, indexAddr, slice, bounds, hiB, loB, withB, maxV, minV, evs, pickV, lenV, builtin, initEnv, convert, K.isU8, strOf, load, store, fieldOf, append, room, fill, placeOf, splice, repl, chunks, Ty.val, Ty.agg, V.plain, H.row, H.ety, AObj.row, Nat.reduceAdd, ↓reduceIte, Nat.reduceEqDiff, Nat.reduceBEq, Nat.reduceBNe, Nat.reduceLT, Int.reduceToNat, Int.reduceEq, Int.reduceLT, Int.reduceLE, reduceCtorEq, Nat.reduceMul, Nat.reduceLeDiff, S_api_Node.enc_eq]
  rw [wp_seq]
  rw [wp_seq]
  rw [wp_region]
  simp only [RC, RL, RM, ↓evs_eq, buildOk, lookup, lookV, update, elemOf, Option.isSome_map, unOp, wanted, aop, tkB, neD, Env.get, Env.put, Env.keep, putD, dstOk, ev, constV, nilSlice, V.demote, V.toOwn, V.cells, ty, R1.res, binOp, isShift, binOpT, isC, intOp, strOp, shiftOp, byteV, index, indexAddr, slice, bounds, hiB, loB, withB, maxV, minV, evs, pickV, lenV, builtin, initEnv, convert, K.isU8, strOf, load, store, fieldOf, append, room, fill, placeOf, splice, repl, chunks, Ty.val, Ty.agg, V.plain, H.row, H.ety, AObj.row, Nat.reduceAdd, ↓reduceIte, Nat.reduceEqDiff, Nat.reduceBEq, Nat.reduceBNe, Nat.reduceLT, Int.reduceToNat, Int.reduceEq, Int.reduceLT, Int.reduceLE, reduceCtorEq, Nat.reduceMul, Nat.reduceLeDiff, S_api_Node.enc_eq]
  rw [wp_cond]
  simp only [RC, RL, RM, ↓evs_eq, buildOk, lookup, lookV, update, elemOf, Option.isSome_map, unOp, wanted, aop, tkB, neD, Env.get, Env.put, Env.keep, putD, dstOk, ev, constV, nilSlice, V.demote, V.toOwn, V.cells, ty, R1.res, binOp, isShift, binOpT, isC, intOp, strOp, shiftOp, byteV, index, indexAddr, slice, bounds, hiB, loB, withB, maxV, minV, evs, pickV, lenV, builtin, initEnv, convert, K.isU8, strOf, load, store, fieldOf, append, room, fill, placeOf, splice, repl, chunks, Ty.val, Ty.agg, V.plain, H.row, H.ety, AObj.row, Nat.reduceAdd, ↓reduceIte, Nat.reduceEqDiff, Nat.reduceBEq, Nat.reduceBNe, Nat.reduceLT, Int.reduceToNat, Int.reduceEq, Int.reduceLT, Int.reduceLE, reduceCtorEq, Nat.reduceMul, Nat.reduceLeDiff, S_api_Node.enc_eq]
  by_cases hc2 : (20000 : Int) < (IntKind.wrap .i64 (x1 + 1))
  · replace hq := (R.post_if hq).1 hc2
    refine condK_t (congrArg V.bool (decide_eq_true hc2)) ?_
    rw [wp_seq]
    rw [wp_region]
    simp only [RC, RL, RM, ↓evs_eq, buildOk, lookup, lookV, update, elemOf, Option.isSome_map, unOp, wanted, aop, tkB, neD, Env.get, Env.put, Env.keep, putD, dstOk, ev, constV, nilSlice, V.demote, V.toOwn, V.cells, ty, R1.res, binOp, isShift, binOpT, isC, intOp, strOp, shiftOp, byteV, index, indexAddr, slice, bounds, hiB, loB, withB, maxV, minV, evs, pickV, lenV, builtin, initEnv, convert, K.isU8, strOf, load, store, fieldOf, append, room, fill, placeOf, splice, repl, chunks, Ty.val, Ty.agg, V.plain, H.row, H.ety, AObj.row, Nat.reduceAdd, ↓reduceIte, Nat.reduceEqDiff, Nat.reduceBEq, Nat.reduceBNe, Nat.reduceLT, Int.reduceToNat, Int.reduceEq, Int.reduceLT, Int.reduceLE, reduceCtorEq, Nat.reduceMul, Nat.reduceLeDiff, S_api_Node.enc_eq]
    rw [wp_ret]
    simp only [retQ, results, resultAll, resultOne, Nat.zero_add, RC, RL, RM, ↓evs_eq, buildOk, lookup, lookV, update, elemOf, Option.isSome_map, unOp, wanted, aop, tkB, neD, Env.get, Env.put, Env.keep, putD, dstOk, ev, constV, nilSlice, V.demote, V.toOwn, V.cells, ty, R1.res, binOp, isShift, binOpT, isC, intOp, strOp, shiftOp, byteV, index, indexAddr, slice, bounds, hiB, loB, withB, maxV, minV, evs, pickV, lenV, builtin, initEnv, convert, K.isU8, strOf, load, store, fieldOf, append, room, fill, placeOf, splice, repl, chunks, Ty.val, Ty.agg, V.plain, H.row, H.ety, AObj.row, Nat.reduceAdd, ↓reduceIte, Nat.reduceEqDiff, Nat.reduceBEq, Nat.reduceBNe, Nat.reduceLT, Int.reduceToNat, Int.reduceEq, Int.reduceLT, Int.reduceLE, reduceCtorEq, Nat.reduceMul, Nat.reduceLeDiff, S_api_Node.enc_eq]
    refine ⟨_, (.refl _), ?_⟩
    refine leave_ok rfl (.int _ _) ?_
    exact hK _ hq
  · replace hq := (R.post_if hq).2 hc2
    refine condK_f (congrArg V.bool (decide_eq_false hc2)) ?_
    try simp only [wp_skip, RC]
    refine Wk.same ?_
    try simp only [RC]
    refine seq_gen (acall_mono hp) (σ := V × Int × V × V × V × V × V × V × V × V × V) (fun s => [(0, s.1), (1, .int .i64 s.2.1), (2, s.2.2.1), (4, s.2.2.2.1), (6, s.2.2.2.2.1), (10, s.2.2.2.2.2.1), (12, s.2.2.2.2.2.2.1), (13, s.2.2.2.2.2.2.2.1), (14, s.2.2.2.2.2.2.2.2.1), (15, s.2.2.2.2.2.2.2.2.2.1), (22, s.2.2.2.2.2.2.2.2.2.2)]) (fun s => h ++ [.cells 24 [.int .i64 x0.Kind, .str x0.Text, .int .i64 x0.N, .int .i64 x0.M, .int .i64 x0.A, .int .i64 x0.At, .str x0.Doc, .sl 8 (List.map S_api_Node.enc x0.Kids)]]) (fun s => (glossaryref07_count_j0 s.2.1).post KK X) (fun s hq => ?_) (fun N hN56 => ?_)
    · obtain ⟨y0_55, x1_55, y2_55, y4_55, y6_55, y10_55, y12_55, y13_55, y14_55, y15_55, y22_55⟩ := s
      try dsimp only at hq ⊢
      unfold glossaryref07_count_j0 at hq
      rw [wp_seq]
      rw [wp_region]
      simp only [RC, RL, RM, ↓evs_eq, buildOk, lookup, lookV, update, elemOf, Option.isSome_map, unOp, wanted, aop, tkB, neD, Env.get, Env.put, Env.keep, putD, dstOk, ev, constV, nilSlice, V.demote, V.toOwn, V.cells, ty, R1.res, binOp, isShift, binOpT, isC, intOp, strOp, shiftOp, byteV, index, indexAddr, slice, bounds, hiB, loB, withB, maxV, minV, evs, pickV, lenV, builtin, initEnv, convert, K.isU8, strOf, load, store, fieldOf, append, room, fill, placeOf, splice, repl, chunks, Ty.val, Ty.agg, V.plain, H.row, H.ety, AObj.row, Nat.reduceAdd, ↓reduceIte, Nat.reduceEqDiff, Nat.reduceBEq, Nat.reduceBNe, Nat.reduceLT, Int.reduceToNat, Int.reduceEq, Int.reduceLT, Int.reduceLE, reduceCtorEq, Nat.reduceMul, Nat.reduceLeDiff, S_api_Node.enc_eq]
      rw [wp_ret]
      simp only [retQ, results, resultAll, resultOne, Nat.zero_add, RC, RL, RM, ↓evs_eq, buildOk, lookup, lookV, update, elemOf, Option.isSome_map, unOp, wanted, aop, tkB, neD, Env.get, Env.put, Env.keep, putD, dstOk, ev, constV, nilSlice, V.demote, V.toOwn, V.cells, ty, R1.res, binOp, isShift, binOpT, isC, intOp, strOp, shiftOp, byteV, index, indexAddr, slice, bounds, hiB, loB, withB, maxV, minV, evs, pickV, lenV, builtin, initEnv, convert, K.isU8, strOf, load, store, fieldOf, append, room, fill, placeOf, splice, repl, chunks, Ty.val, Ty.agg, V.plain, H.row, H.ety, AObj.row, Nat.reduceAdd, ↓reduceIte, Nat.reduceEqDiff, Nat.reduceBEq, Nat.reduceBNe, Nat.reduceLT, Int.reduceToNat, Int.reduceEq, Int.reduceLT, Int.reduceLE, reduceCtorEq, Nat.reduceMul, Nat.reduceLeDiff, S_api_Node.enc_eq]
      refine ⟨_, (.refl _), ?_⟩
      refine leave_ok rfl (.int _ _) ?_
      exact hK _ hq
    · rw [wp_seq]
      rw [wp_region]
      simp only [RC, RL, RM, ↓evs_eq, buildOk, lookup, lookV, update, elemOf, Option.isSome_map, unOp, wanted, aop, tkB, neD, Env.get, Env.put, Env.keep, putD, dstOk, ev, constV, nilSlice, V.demote, V.toOwn, V.cells, ty, R1.res, binOp, isShift, binOpT, isC, intOp, strOp, shiftOp, byteV, index, indexAddr, slice, bounds, hiB, loB, withB, maxV, minV, evs, pickV, lenV, builtin, initEnv, convert, K.isU8, strOf, load, store, fieldOf, append, room, fill, placeOf, splice, repl, chunks, Ty.val, Ty.agg, V.plain, H.row, H.ety, AObj.row, Nat.reduceAdd, ↓reduceIte, Nat.reduceEqDiff, Nat.reduceBEq, Nat.reduceBNe, Nat.reduceLT, Int.reduceToNat, Int.reduceEq, Int.reduceLT, Int.reduceLE, reduceCtorEq, Nat.reduceMul, Nat.reduceLeDiff, S_api_Node.enc_eq]
      rw [wp_block]
      refine loop_in ?_
      refine Wk.le (EnvLe.cons (.top _) (EnvLe.cons (.refl _) (EnvLe.cons (.top _) (EnvLe.cons (.top _) (EnvLe.cons (.refl _) (EnvLe.cons (.top _) (EnvLe.cons (.refl _) (EnvLe.cons (.refl _) (EnvLe.cons (.refl _) (EnvLe.cons (.refl _) (EnvLe.cons (.refl _) EnvLe.nil))))))))))) ?_
      obtain ⟨K83, hK84, hq⟩ := R.post_cut hq
      refine loop_gen (acall_mono hp) (σ := V × Int × V × V × V × V × Int × V × V) (fun s => [(0, s.1), (1, .int .i64 s.2.1), (2, s.2.2.1), (4, s.2.2.2.1), (6, s.2.2.2.2.1), (10, s.2.2.2.2.2.1), (12, .sl 8 (List.map S_api_Node.enc x0.Kids)), (13, .int .i64 (List.length x0.Kids : Int)), (14, .int .i64 s.2.2.2.2.2.2.1), (15, s.2.2.2.2.2.2.2.1), (22, s.2.2.2.2.2.2.2.2)]) (fun s => h ++ [.cells 24 [.int .i64 x0.Kind, .str x0.Text, .int .i64 x0.N, .int .i64 x0.M, .int .i64 x0.A, .int .i64 x0.At, .str x0.Doc, .sl 8 (List.map S_api_Node.enc x0.Kids)]]) (fun k s => (glossaryref07_count_l1 self_glossaryref07_count x0 k s.2.1 s.2.2.2.2.2.2.1).post K83 X) (fun s hs => hs) (fun k98 s hq N hN85 => ?_) _ (_, (IntKind.wrap .i64 (x1 + 1)), _, _, _, _, 0, _, _) hq
      obtain ⟨y0_70, x1_70, y2_70, y4_70, y6_70, y10_70, x14_70, y15_70, y22_70⟩ := s
      try dsimp only at hq ⊢
      rw [glossaryref07_count_l1] at hq
      rw [wp_seq]
      rw [wp_region]
      simp only [RC, RL, RM, ↓evs_eq, buildOk, lookup, lookV, update, elemOf, Option.isSome_map, unOp, wanted, aop, tkB, neD, Env.get, Env.put, Env.keep, putD, dstOk, ev, constV, nilSlice, V.demote, V.toOwn, V.cells, ty, R1.res, binOp, isShift, binOpT, isC, intOp, strOp, shiftOp, byteV, index, indexAddr, slice, bounds, hiB, loB, withB, maxV, minV, evs, pickV, lenV, builtin, initEnv, convert, K.isU8, strOf, load, store, fieldOf, append, room, fill, placeOf, splice, repl, chunks, Ty.val, Ty.agg, V.plain, H.row, H.ety, AObj.row, Nat.reduceAdd, ↓reduceIte, Nat.reduceEqDiff, Nat.reduceBEq, Nat.reduceBNe, Nat.reduceLT, Int.reduceToNat, Int.reduceEq, Int.reduceLT, Int.reduceLE, reduceCtorEq, Nat.reduceMul, Nat.reduceLeDiff, S_api_Node.enc_eq]
      rw [wp_seq]
      rw [wp_cond]
      simp only [RC, RL, RM, ↓evs_eq, buildOk, lookup, lookV, update, elemOf, Option.isSome_map, unOp, wanted, aop, tkB, neD, Env.get, Env.put, Env.keep, putD, dstOk, ev, constV, nilSlice, V.demote, V.toOwn, V.cells, ty, R1.res, binOp, isShift, binOpT, isC, intOp, strOp, shiftOp, byteV, index, indexAddr, slice, bounds, hiB, loB, withB, maxV, minV, evs, pickV, lenV, builtin, initEnv, convert, K.isU8, strOf, load, store, fieldOf, append, room, fill, placeOf, splice, repl, chunks, Ty.val, Ty.agg, V.plain, H.row, H.ety, AObj.row, Nat.reduceAdd, ↓reduceIte, Nat.reduceEqDiff, Nat.reduceBEq, Nat.reduceBNe, Nat.reduceLT, Int.reduceToNat, Int.reduceEq, Int.reduceLT, Int.reduceLE, reduceCtorEq, Nat.reduceMul, Nat.reduceLeDiff, S_api_Node.enc_eq]
      by_cases hc86 : x14_70 < (List.length x0.Kids : Int)
      · replace hq := (R.post_if hq).1 hc86
        refine condK_t (congrArg V.bool (decide_eq_true hc86)) ?_
        try simp only [wp_skip, RC]
        refine Wk.same ?_
        try simp only [RC]
        rw [wp_seq]
        rw [wp_block]
        rw [wp_seq]
        rw [wp_region]
        obtain ⟨g89, hq⟩ := R.guard hq
        have e90 := map_gt (f := S_api_Node.enc) (l := x0.Kids) (i := x14_70) g89
        simp only [e90, RC, RL, RM, ↓evs_eq, buildOk, lookup, lookV, update, elemOf, Option.isSome_map, unOp, wanted, aop, tkB, neD, Env.get, Env.put, Env.keep, putD, dstOk, ev, constV, nilSlice, V.demote, V.toOwn, V.cells, ty, R1.res, binOp, isShift, binOpT, isC, intOp, strOp, shiftOp, byteV, index, indexAddr, slice, bounds, hiB, loB, withB, maxV, minV, evs, pickV, lenV, builtin, initEnv, convert, K.isU8, strOf, load, store, fieldOf, append, room, fill, placeOf, splice, repl, chunks, Ty.val, Ty.agg, V.plain, H.row, H.ety, AObj.row, Nat.reduceAdd, ↓reduceIte, Nat.reduceEqDiff, Nat.reduceBEq, Nat.reduceBNe, Nat.reduceLT, Int.reduceToNat, Int.reduceEq, Int.reduceLT, Int.reduceLE, reduceCtorEq, Nat.reduceMul, Nat.reduceLeDiff, S_api_Node.enc_eq]
        repeat (with_reducible refine And.intro (by omega) ?_)
        rw [wp_seq]
        rw [wp_region]
        simp only [RC, RL, RM, ↓evs_eq, buildOk, lookup, lookV, update, elemOf, Option.isSome_map, unOp, wanted, aop, tkB, neD, Env.get, Env.put, Env.keep, putD, dstOk, ev, constV, nilSlice, V.demote, V.toOwn, V.cells, ty, R1.res, binOp, isShift, binOpT, isC, intOp, strOp, shiftOp, byteV, index, indexAddr, slice, bounds, hiB, loB, withB, maxV, minV, evs, pickV, lenV, builtin, initEnv, convert, K.isU8, strOf, load, store, fieldOf, append, room, fill, placeOf, splice, repl, chunks, Ty.val, Ty.agg, V.plain, H.row, H.ety, AObj.row, Nat.reduceAdd, ↓reduceIte, Nat.reduceEqDiff, Nat.reduceBEq, Nat.reduceBNe, Nat.reduceLT, Int.reduceToNat, Int.reduceEq, Int.reduceLT, Int.reduceLE, reduceCtorEq, Nat.reduceMul, Nat.reduceLeDiff, S_api_Node.enc_eq]
        obtain ⟨K96, hK97, hq⟩ := R.post_cut hq
        refine ih_glossaryref07_count (x0 := (gt x0.Kids x14_70)) (x1 := x1_70) hq (fun r94 hq => ?_) (fun v hv => ⟨(hX v hv).1, ?_⟩)
        · replace hq := hK97 _ hq
          simp only [RC, RL, RM, ↓evs_eq, buildOk, lookup, lookV, update, elemOf, Option.isSome_map, unOp, wanted, aop, tkB, neD, Env.get, Env.put, Env.keep, putD, dstOk, ev, constV, nilSlice, V.demote, V.toOwn, V.cells, ty, R1.res, binOp, isShift, binOpT, isC, intOp, strOp, shiftOp, byteV, index, indexAddr, slice, bounds, hiB, loB, withB, maxV, minV, evs, pickV, lenV, builtin, initEnv, convert, K.isU8, strOf, load, store, fieldOf, append, room, fill, placeOf, splice, repl, chunks, Ty.val, Ty.agg, V.plain, H.row, H.ety, AObj.row, Nat.reduceAdd, ↓reduceIte, Nat.reduceEqDiff, Nat.reduceBEq, Nat.reduceBNe, Nat.reduceLT, Int.reduceToNat, Int.reduceEq, Int.reduceLT, Int.reduceLE, reduceCtorEq, Nat.reduceMul, Nat.reduceLeDiff, S_api_Node.enc_eq]
          rw [wp_seq]
          rw [wp_region]
          simp only [RC, RL, RM, ↓evs_eq, buildOk, lookup, lookV, update, elemOf, Option.isSome_map, unOp, wanted, aop, tkB, neD, Env.get, Env.put, Env.keep, putD, dstOk, ev, constV, nilSlice, V.demote, V.toOwn, V.cells, ty, R1.res, binOp, isShift, binOpT, isC, intOp, strOp, shiftOp, byteV, index, indexAddr, slice, bounds, hiB, loB, withB, maxV, minV, evs, pickV, lenV, builtin, initEnv, convert, K.isU8, strOf, load, store, fieldOf, append, room, fill, placeOf, splice, repl, chunks, Ty.val, Ty.agg, V.plain, H.row, H.ety, AObj.row, Nat.reduceAdd, ↓reduceIte, Nat.reduceEqDiff, Nat.reduceBEq, Nat.reduceBNe, Nat.reduceLT, Int.reduceToNat, Int.reduceEq, Int.reduceLT, Int.reduceLE, reduceCtorEq, Nat.reduceMul, Nat.reduceLeDiff, S_api_Node.enc_eq]
          rw [wp_cond]
          simp only [RC, RL, RM, ↓evs_eq, buildOk, lookup, lookV, update, elemOf, Option.isSome_map, unOp, wanted, aop, tkB, neD, Env.get, Env.put, Env.keep, putD, dstOk, ev, constV, nilSlice, V.demote, V.toOwn, V.cells, ty, R1.res, binOp, isShift, binOpT, isC, intOp, strOp, shiftOp, byteV, index, indexAddr, slice, bounds, hiB, loB, withB, maxV, minV, evs, pickV, lenV, builtin, initEnv, convert, K.isU8, strOf, load, store, fieldOf, append, room, fill, placeOf, splice, repl, chunks, Ty.val, Ty.agg, V.plain, H.row, H.ety, AObj.row, Nat.reduceAdd, ↓reduceIte, Nat.reduceEqDiff, Nat.reduceBEq, Nat.reduceBNe, Nat.reduceLT, Int.reduceToNat, Int.reduceEq, Int.reduceLT, Int.reduceLE, reduceCtorEq, Nat.reduceMul, Nat.reduceLeDiff, S_api_Node.enc_eq]
          by_cases hc95 : (20000 : Int) < r94
          · replace hq := (R.post_if hq).1 hc95
            refine condK_t (congrArg V.bool (decide_eq_true hc95)) ?_
            rw [wp_seq]
            rw [wp_region]
            simp only [RC, RL, RM, ↓evs_eq, buildOk, lookup, lookV, update, elemOf, Option.isSome_map, unOp, wanted, aop, tkB, neD, Env.get, Env.put, Env.keep, putD, dstOk, ev, constV, nilSlice, V.demote, V.toOwn, V.cells, ty, R1.res, binOp, isShift, binOpT, isC, intOp, strOp, shiftOp, byteV, index, indexAddr, slice, bounds, hiB, loB, withB, maxV, minV, evs, pickV, lenV, builtin, initEnv, convert, K.isU8, strOf, load, store, fieldOf, append, room, fill, placeOf, splice, repl, chunks, Ty.val, Ty.agg, V.plain, H.row, H.ety, AObj.row, Nat.reduceAdd, ↓reduceIte, Nat.reduceEqDiff, Nat.reduceBEq, Nat.reduceBNe, Nat.reduceLT, Int.reduceToNat, Int.reduceEq, Int.reduceLT, Int.reduceLE, reduceCtorEq, Nat.reduceMul, Nat.reduceLeDiff, S_api_Node.enc_eq]
            rw [wp_ret]
            simp only [retQ, results, resultAll, resultOne, Nat.zero_add, RC, RL, RM, ↓evs_eq, buildOk, lookup, lookV, update, elemOf, Option.isSome_map, unOp, wanted, aop, tkB, neD, Env.get, Env.put, Env.keep, putD, dstOk, ev, constV, nilSlice, V.demote, V.toOwn, V.cells, ty, R1.res, binOp, isShift, binOpT, isC, intOp, strOp, shiftOp, byteV, index, indexAddr, slice, bounds, hiB, loB, withB, maxV, minV, evs, pickV, lenV, builtin, initEnv, convert, K.isU8, strOf, load, store, fieldOf, append, room, fill, placeOf, splice, repl, chunks, Ty.val, Ty.agg, V.plain, H.row, H.ety, AObj.row, Nat.reduceAdd, ↓reduceIte, Nat.reduceEqDiff, Nat.reduceBEq, Nat.reduceBNe, Nat.reduceLT, Int.reduceToNat, Int.reduceEq, Int.reduceLT, Int.reduceLE, reduceCtorEq, Nat.reduceMul, Nat.reduceLeDiff, S_api_Node.enc_eq]
            refine ⟨_, (.refl _), ?_⟩
            refine leave_ok rfl (.int _ _) ?_
            replace hq := hK84 _ hq
            exact hK _ hq
          · replace hq := (R.post_if hq).2 hc95
            refine condK_f (congrArg V.bool (decide_eq_false hc95)) ?_
            try simp only [wp_skip, RC]
            refine Wk.same ?_
            try simp only [RC]
            refine Wk.drop [.cells 24 [.int .i64 x0.Kind, .str x0.Text, .int .i64 x0.N, .int .i64 x0.M, .int .i64 x0.A, .int .i64 x0.At, .str x0.Doc, .sl 8 (List.map S_api_Node.enc x0.Kids)]] _ [.cells 24 [.int .i64 ((gt x0.Kids x14_70).Kind), .str (gt x0.Kids x14_70).Text, .int .i64 ((gt x0.Kids x14_70).N), .int .i64 ((gt x0.Kids x14_70).M), .int .i64 ((gt x0.Kids x14_70).A), .int .i64 ((gt x0.Kids x14_70).At), .str (gt x0.Kids x14_70).Doc, .sl 8 (List.map S_api_Node.enc (gt x0.Kids x14_70).Kids)]] rfl rfl (EnvLe.cons (.top _) (EnvLe.cons (.refl _) (EnvLe.cons (.top _) (EnvLe.cons (.top _) (EnvLe.cons (.top _) (EnvLe.cons (.top _) (EnvLe.cons (.refl _) (EnvLe.cons (.refl _) (EnvLe.cons (.refl _) (EnvLe.cons (.top _) (EnvLe.cons (.top _) EnvLe.nil))))))))))) (EnvCl.cons .top (EnvCl.cons (.int _ _) (EnvCl.cons .top (EnvCl.cons .top (EnvCl.cons .top (EnvCl.cons .top (EnvCl.cons (.sl _ _ (cl_map (S_api_Node.cl _))) (EnvCl.cons (.int _ _) (EnvCl.cons (.int _ _) (EnvCl.cons .top (EnvCl.cons .top (EnvCl.nil _)))))))))))) (objcl_cons (cl_cons (.int _ _) (cl_cons (.str _) (cl_cons (.int _ _) (cl_cons (.int _ _) (cl_cons (.int _ _) (cl_cons (.int _ _) (cl_cons (.str _) (cl_cons (.sl _ _ (cl_map (S_api_Node.cl _))) cl_nil)))))))) objcl_nil) ?_
            try simp only [RC]
            rw [wp_region]
            simp only [RC, RL, RM, ↓evs_eq, buildOk, lookup, lookV, update, elemOf, Option.isSome_map, unOp, wanted, aop, tkB, neD, Env.get, Env.put, Env.keep, putD, dstOk, ev, constV, nilSlice, V.demote, V.toOwn, V.cells, ty, R1.res, binOp, isShift, binOpT, isC, intOp, strOp, shiftOp, byteV, index, indexAddr, slice, bounds, hiB, loB, withB, maxV, minV, evs, pickV, lenV, builtin, initEnv, convert, K.isU8, strOf, load, store, fieldOf, append, room, fill, placeOf, splice, repl, chunks, Ty.val, Ty.agg, V.plain, H.row, H.ety, AObj.row, Nat.reduceAdd, ↓reduceIte, Nat.reduceEqDiff, Nat.reduceBEq, Nat.reduceBNe, Nat.reduceLT, Int.reduceToNat, Int.reduceEq, Int.reduceLT, Int.reduceLE, reduceCtorEq, Nat.reduceMul, Nat.reduceLeDiff, S_api_Node.enc_eq]
            refine Wk.same ?_
            exact hN85 (_, r94, _, _, _, _, (IntKind.wrap .i64 (x14_70 + 1)), _, _) hq
        · simp only [RC, retQ, ↓reduceIte, Bool.false_eq_true]
          exact leaveP_ok ((hX _ hv).1.mono (Nat.zero_le _)) (hX _ hv).2
      · replace hq := (R.post_if hq).2 hc86
        refine condK_f (congrArg V.bool (decide_eq_false hc86)) ?_
        rw [wp_exit]
        try simp only [↓reduceIte, Nat.reduceEqDiff, reduceCtorEq, if_false, if_true, eq_self, Nat.succ_ne_self, RC]
        replace hq := hK84 _ hq
        try dsimp only at hq
        refine Wk.le (EnvLe.cons (.refl _) (EnvLe.cons (.refl _) (EnvLe.cons (.refl _) (EnvLe.cons (.refl _) (EnvLe.cons (.refl _) (EnvLe.cons (.refl _) (EnvLe.cons (.top _) (EnvLe.cons (.top _) (EnvLe.cons (.top _) (EnvLe.cons (.top _) (EnvLe.cons (.refl _) EnvLe.nil))))))))))) ?_
        try simp only [RC]
        exact hN56 (_, x1_70, _, _, _, _, _, _, _, _, _) hq
theorem glossaryref07_count_ih (k : Nat) : ∀ {h : H} {x0 : S_api_Node} {x1 : Int} {Q : Out → H → Prop} {KK : (Int) → Prop} {X : V → Prop} (hq : (glossaryref07_count_n k x0 x1).post KK X) (hK : ∀ r, KK r → Q (.ret (.int .i64 r)) h) (hX : ∀ v, X v → V.Cl 0 v ∧ Q (.panic v) h), CA qprim 21 [.agg [.int .i64 x0.Kind, .str x0.Text, .int .i64 x0.N, .int .i64 x0.M, .int .i64 x0.A, .int .i64 x0.At, .str x0.Doc, .sl 8 (List.map S_api_Node.enc x0.Kids)], .int .i64 x1] h Q := by
  induction k with
  | zero => intro h x0 x1 Q KK X hq; exact False.elim hq
  | succ k ih => intro h x0 x1 Q KK X hq hK hX; exact glossaryref07_count_b_call (ih_glossaryref07_count := ih) hq hK hX
theorem glossaryref07_count_call {h : H} {x0 : S_api_Node} {x1 : Int} {Q : Out → H → Prop} {KK : (Int) → Prop} {X : V → Prop} (hq : (glossaryref07_count x0 x1).post KK X) (hK : ∀ r, KK r → Q (.ret (.int .i64 r)) h) (hX : ∀ v, X v → V.Cl 0 v ∧ Q (.panic v) h) : CA qprim 21 [.agg [.int .i64 x0.Kind, .str x0.Text, .int .i64 x0.N, .int .i64 x0.M, .int .i64 x0.A, .int .i64 x0.At, .str x0.Doc, .sl 8 (List.map S_api_Node.enc x0.Kids)], .int .i64 x1] h Q := glossaryref07_count_ih Many hq hK hX

def glossaryref07_Count (x0 : S_api_Node) : R (Int) :=
  (glossaryref07_count x0 0).bind fun r4 => R.ok (if 30000 < r4 then 30000 else r4)
theorem glossaryref07_Count_call {h : H} {x0 : S_api_Node} {Q : Out → H → Prop} {KK : (Int) → Prop} {X : V → Prop} (hq : (glossaryref07_Count x0).post KK X) (hK : ∀ r, KK r → Q (.ret (.int .i64 r)) h) (hX : ∀ v, X v → V.Cl 0 v ∧ Q (.panic v) h) : CA qprim 10 [.agg [.int .i64 x0.Kind, .str x0.Text, .int .i64 x0.N, .int .i64 x0.M, .int .i64 x0.A, .int .i64 x0.At, .str x0.Doc, .sl 8 (List.map S_api_Node.enc x0.Kids)]] h Q := by
  refine acalln hp Tryd.func10 rfl (by kernel_rfl) (n := 6) rfl (rs := [.tmp 2]) rfl [0, 1, 2] [] true (by simp) ?_
  unfold glossaryref07_Count at hq
  simp only [initEnv, List.map_cons, List.map_nil, List.getD_cons_zero, List.getD_cons_succ, List.getD_nil, V.demote]
  rw [wp_seq]
  rw [wp_region]
  simp only [RC, RL, RM, ↓evs_eq, buildOk, lookup, lookV, update, elemOf, Option.isSome_map, unOp, wanted, aop, tkB, neD, Env.get, Env.put, Env.keep, putD, dstOk, ev, constV, nilSlice, V.demote, V.toOwn, V.cells, ty, R1.res, binOp, isShift, binOpT, isC, intOp, strOp, shiftOp, byteV, index, indexAddr, slice, bounds, hiB, loB, withB, maxV, minV, evs, pickV, lenV, builtin, initEnv, convert, K.isU8, strOf, load, store, fieldOf, append, room, fill, placeOf, splice, repl, chunks, Ty.val, Ty.agg, V.plain, H.row, H.ety, AObj.row, Nat.reduceAdd, ↓reduceIte, Nat.reduceEqDiff, Nat.reduceBEq, Nat.reduceBNe, Nat.reduceLT, Int.reduceToNat, Int.reduceEq, Int.reduceLT, Int.reduceLE, reduceCtorEq, Nat.reduceMul, Nat.reduceLeDiff, S_api_Node.enc_eq]
  rw [wp_seq]
  rw [wp_region]
  simp only [RC, RL, RM, ↓evs_eq, buildOk, lookup, lookV, update, elemOf, Option.isSome_map, unOp, wanted, aop, tkB, neD, Env.get, Env.put, Env.keep, putD, dstOk, ev, constV, nilSlice, V.demote, V.toOwn, V.cells, ty, R1.res, binOp, isShift, binOpT, isC, intOp, strOp, shiftOp, byteV, index, indexAddr, slice, bounds, hiB, loB, withB, maxV, minV, evs, pickV, lenV, builtin, initEnv, convert, K.isU8, strOf, load, store, fieldOf, append, room, fill, placeOf, splice, repl, chunks, Ty.val, Ty.agg, V.plain, H.row, H.ety, AObj.row, Nat.reduceAdd, ↓reduceIte, Nat.reduceEqDiff, Nat.reduceBEq, Nat.reduceBNe, Nat.reduceLT, Int.reduceToNat, Int.reduceEq, Int.reduceLT, Int.reduceLE, reduceCtorEq, Nat.reduceMul, Nat.reduceLeDiff, S_api_Node.enc_eq]
  obtain ⟨K5, hK6, hq⟩ := R.post_cut hq
  refine glossaryref07_count_call (x0 := x0) (x1 := 0) hq (fun r4 hq => ?_) (fun v hv => ⟨(hX v hv).1, ?_⟩)
  · replace hq := hK6 _ hq
    simp only [RC, RL, RM, ↓evs_eq, buildOk, lookup, lookV, update, elemOf, Option.isSome_map, unOp, wanted, aop, tkB, neD, Env.get, Env.put, Env.keep, putD, dstOk, ev, constV, nilSlice, V.demote, V.toOwn, V.cells, ty, R1.res, binOp, isShift, binOpT, isC, intOp, strOp, shiftOp, byteV, index, indexAddr, slice, bounds, hiB, loB, withB, maxV, minV, evs, pickV, lenV, builtin, initEnv, convert, K.isU8, strOf, load, store, fieldOf, append, room, fill, placeOf, splice, repl, chunks, Ty.val, Ty.agg, V.plain, H.row, H.ety, AObj.row, Nat.reduceAdd, ↓reduceIte, Nat.reduceEqDiff, Nat.reduceBEq, Nat.reduceBNe, Nat.reduceLT, Int.reduceToNat, Int.reduceEq, Int.reduceLT, Int.reduceLE, reduceCtorEq, Nat.reduceMul, Nat.reduceLeDiff, S_api_Node.enc_eq]
    rw [wp_ret]
    simp only [retQ, results, resultAll, resultOne, Nat.zero_add, RC, RL, RM, ↓evs_eq, buildOk, lookup, lookV, update, elemOf, Option.isSome_map, unOp, wanted, aop, tkB, neD, Env.get, Env.put, Env.keep, putD, dstOk, ev, constV, nilSlice, V.demote, V.toOwn, V.cells, ty, R1.res, binOp, isShift, binOpT, isC, intOp, strOp, shiftOp, byteV, index, indexAddr, slice, bounds, hiB, loB, withB, maxV, minV, evs, pickV, lenV, builtin, initEnv, convert, K.isU8, strOf, load, store, fieldOf, append, room, fill, placeOf, splice, repl, chunks, Ty.val, Ty.agg, V.plain, H.row, H.ety, AObj.row, Nat.reduceAdd, ↓reduceIte, Nat.reduceEqDiff, Nat.reduceBEq, Nat.reduceBNe, Nat.reduceLT, Int.reduceToNat, Int.reduceEq, Int.reduceLT, Int.reduceLE, reduceCtorEq, Nat.reduceMul, Nat.reduceLeDiff, S_api_Node.enc_eq]
    refine ⟨_, (.refl _), ?_⟩
    refine leave_ok rfl (.int _ _) ?_
    exact hK _ hq
  · simp only [RC, retQ, ↓reduceIte, Bool.false_eq_true]
    exact leaveP_ok ((hX _ hv).1.mono (Nat.zero_le _)) (hX _ hv).2

def node_Deep_1_j0 (x6_54 : Int) : R (Int) :=
  R.ok x6_54
def node_Deep_1_l1 (self_node_Deep_1 : S_api_Node → Int → R (Int)) (x0 : S_api_Node) (x1 : Int) : Nat → Int → Int → R (Int)
  | 0, _, _ => R.stuck
  | k + 1, x6_69, x13_69 => if x13_69 < (List.length x0.Kids : Int) then (if 0 ≤ x13_69 ∧ x13_69 < (List.length x0.Kids : Int) then (if (64 : Int) < x6_69 then (R.ok x6_69) else ((self_node_Deep_1 (gt x0.Kids x13_69) (IntKind.wrap .i64 (x1 + 1))).sure.bind fun r94 => node_Deep_1_l1 self_node_Deep_1 x0 x1 k (if x6_69 < r94 then r94 else x6_69) (IntKind.wrap .i64 (x13_69 + 1)))) else R.stuck) else (R.ok x6_69)
def node_Deep_1_b (self_node_Deep_1 : S_api_Node → Int → R (Int)) (x0 : S_api_Node) (x1 : Int) : R (Int) :=
  (node_Deep_1_l1 self_node_Deep_1 x0 x1 Many x1 0).bind fun x6p98 => node_Deep_1_j0 x6p98
def node_Deep_1_n : Nat → S_api_Node → Int → R (Int)
  | 0 => fun _ _ => R.stuck
  | k + 1 => node_Deep_1_b (node_Deep_1_n k)
def node_Deep_1 (x0 : S_api_Node) (x1 : Int) : R (Int) := node_Deep_1_n Many x0 x1
theorem node_Deep_1_b_call {self_node_Deep_1 : S_api_Node → Int → R (Int)} (ih_node_Deep_1 : ∀ {h : H} {x0 : S_api_Node} {x1 : Int} {Q : Out → H → Prop} {id0 : Nat} (h00 : h[id0]? = some (.cells 37 [.func (.func 22) [] [.ref id0 0]])) {KK : (Int) → Prop} {X : V → Prop} (hq : (self_node_Deep_1 x0 x1).post KK X) (hK : ∀ r, KK r → Q (.ret (.int .i64 r)) h) (hX : ∀ v, X v → False), CA qprim 22 [.agg [.int .i64 x0.Kind, .str x0.Text, .int .i64 x0.N, .int .i64 x0.M, .int .i64 x0.A, .int .i64 x0.At, .str x0.Doc, .sl 8 (List.map S_api_Node.enc x0.Kids)], .int .i64 x1, .ref id0 0] h Q) {h : H} {x0 : S_api_Node} {x1 : Int} {Q : Out → H → Prop} {id0 : Nat} (h00 : h[id0]? = some (.cells 37 [.func (.func 22) [] [.ref id0 0]])) {KK : (Int) → Prop} {X : V → Prop} (hq : (node_Deep_1_b self_node_Deep_1 x0 x1).post KK X) (hK : ∀ r, KK r → Q (.ret (.int .i64 r)) h) (hX : ∀ v, X v → False) : CA qprim 22 [.agg [.int .i64 x0.Kind, .str x0.Text, .int .i64 x0.N, .int .i64 x0.M, .int .i64 x0.A, .int .i64 x0.At, .str x0.Doc, .sl 8 (List.map S_api_Node.enc x0.Kids)], .int .i64 x1, .ref id0 0] h Q := by
  refine acalln hp Tryd.func22 rfl (by kernel_rfl) (n := 28) rfl (rs := [.tmp 5]) rfl [0, 1, 2, 3, 5, 6, 8, 11, 12, 13, 14, 18] [] true (by simp) ?_
  unfold node_Deep_1_b at hq
  simp only [initEnv, List.map_cons, List.map_nil, List.getD_cons_zero, List.getD_cons_succ, List.getD_nil, V.demote]
  have hlt0 : id0 < h.length := (List.getElem?_eq_some_iff.1 h00).1
  have hlen : ∀ (c0 : AObj), List.length (List.set h id0 c0) = h.length := by intros; simp only [List.length_set]
  have hg0 : ∀ (c0 : AObj), ((List.set h id0 c0) : List AObj)[id0]? = some c0 := by intros; simp [List.getElem?_set, hlt0]
  have hgl0 : ∀ (c0 : AObj) (L : List AObj), ((List.set h id0 c0) ++ L)[id0]? = some c0 := by intros; rw [List.getElem?_append_left (by rw [hlen]; exact hlt0)]; exact hg0 _
  have hs0 : ∀ (c0 : AObj) (x : AObj), List.set (List.set h id0 c0) id0 x = (List.set h id0 x) := by intros; simp only [List.set_set]
  have hsl0 : ∀ (c0 : AObj) (x : AObj) (L : List AObj), List.set ((List.set h id0 c0) ++ L) id0 x = (List.set h id0 x) ++ L := by intros; rw [List.set_append_left _ _ (by rw [hlen]; exact hlt0), hs0]
  have hgL : ∀ (c0 : AObj) (L : List AObj) (j : Nat), ((List.set h id0 c0) ++ L)[h.length + j]? = L[j]? := by intro c0 L j; have := get_loc (h := (List.set h id0 c0)) (L := L) (j := j); rwa [hlen] at this
  have hgL0 : ∀ (c0 : AObj) (L : List AObj), ((List.set h id0 c0) ++ L)[h.length]? = L[0]? := fun c0 L => hgL c0 L 0
  have hsL : ∀ (c0 : AObj) (L : List AObj) (j : Nat) (x : AObj), List.set ((List.set h id0 c0) ++ L) (h.length + j) x = (List.set h id0 c0) ++ List.set L j x := by intro c0 L j x; have := set_loc (h := (List.set h id0 c0)) (L := L) (j := j) (o := x); rwa [hlen] at this
  have hsL0 : ∀ (c0 : AObj) (L : List AObj) (x : AObj), List.set ((List.set h id0 c0) ++ L) h.length x = (List.set h id0 c0) ++ List.set L 0 x := fun c0 L x => hsL c0 L 0 x
  refine wp_heap (h' := (List.set h id0 (.cells 37 [.func (.func 22) [] [.ref id0 0]]))) (by rw [set_same h00]) ?_
  rw [wp_seq]
  rw [wp_region]
  simp only [RC, RL, RM, ↓evs_eq, buildOk, lookup, lookV, update, elemOf, Option.isSome_map, unOp, wanted, aop, tkB, neD, Env.get, Env.put, Env.keep, putD, dstOk, ev, constV, nilSlice, V.demote, V.toOwn, V.cells, ty, R1.res, binOp, isShift, binOpT, isC, intOp, strOp, shiftOp, byteV, index, indexAddr, slice, bounds, hiB, loB, withB, maxV, minV, evs, pickV, lenV, builtin, initEnv, convert, K.isU8, strOf, load, store, fieldOf, append, room, fill, placeOf, splice, repl, chunks, Ty.val, Ty.agg, V.plain, H.row, H.ety, AObj.row, Nat.reduceAdd, ↓reduceIte, Nat.reduceEqDiff, Nat.reduceBEq, Nat.reduceBNe, Nat.reduceLT, Int.reduceToNat, Int.reduceEq, Int.reduceLT, Int.reduceLE, reduceCtorEq, Nat.reduceMul, Nat.reduceLeDiff, S_api_Node.enc_eq, hg0, hgl0, hs0, hsl0, hgL, hgL0, hsL, hsL0, hlen]
  rw [wp_seq]
  rw [wp_region]
  simp only [RC, RL, RM, ↓evs_eq, buildOk, lookup, lookV, update, elemOf, Option.isSome_map, unOp, wanted, aop, tkB, neD, Env.get, Env.put, Env.keep, putD, dstOk, ev, constV, nilSlice, V.demote, V.toOwn, V.cells, ty, R1.res, binOp, isShift, binOpT, isC, intOp, strOp, shiftOp, byteV, index, indexAddr, slice, bounds, hiB, loB, withB, maxV, minV, evs, pickV, lenV, builtin, initEnv, convert, K.isU8, strOf, load, store, fieldOf, append, room, fill, placeOf, splice, repl, chunks, Ty.val, Ty.agg, V.plain, H.row, H.ety, AObj.row, Nat.reduceAdd, ↓reduceIte, Nat.reduceEqDiff, Nat.reduceBEq, Nat.reduceBNe, Nat.reduceLT, Int.reduceToNat, Int.reduceEq, Int.reduceLT, Int.reduceLE, reduceCtorEq, Nat.reduceMul, Nat.reduceLeDiff, S_api_Node.enc_eq, hg0, hgl0, hs0, hsl0, hgL, hgL0, hsL, hsL0, hlen]
  refine seq_gen (acall_mono hp) (σ := V × V × V × Int × V × V × V × V × V × V) (fun s => [(0, s.1), (1, .int .i64 x1), (2, .ref id0 0), (3, s.2.1), (5, s.2.2.1), (6, .int .i64 s.2.2.2.1), (8, s.2.2.2.2.1), (11, s.2.2.2.2.2.1), (12, s.2.2.2.2.2.2.1), (13, s.2.2.2.2.2.2.2.1), (14, s.2.2.2.2.2.2.2.2.1), (18, s.2.2.2.2.2.2.2.2.2)]) (fun s => (List.set h id0 (.cells 37 [.func (.func 22) [] [.ref id0 0]])) ++ [.cells 24 [.int .i64 x0.Kind, .str x0.Text, .int .i64 x0.N, .int .i64 x0.M, .int .i64 x0.A, .int .i64 x0.At, .str x0.Doc, .sl 8 (List.map S_api_Node.enc x0.Kids)]]) (fun s => (node_Deep_1_j0 s.2.2.2.1).post KK X) (fun s hq => ?_) (fun N hN55 => ?_)
  · obtain ⟨y0_54, y3_54, y5_54, x6_54, y8_54, y11_54, y12_54, y13_54, y14_54, y18_54⟩ := s
    try dsimp only at hq ⊢
    unfold node_Deep_1_j0 at hq
    rw [wp_seq]
    rw [wp_region]
    simp only [RC, RL, RM, ↓evs_eq, buildOk, lookup, lookV, update, elemOf, Option.isSome_map, unOp, wanted, aop, tkB, neD, Env.get, Env.put, Env.keep, putD, dstOk, ev, constV, nilSlice, V.demote, V.toOwn, V.cells, ty, R1.res, binOp, isShift, binOpT, isC, intOp, strOp, shiftOp, byteV, index, indexAddr, slice, bounds, hiB, loB, withB, maxV, minV, evs, pickV, lenV, builtin, initEnv, convert, K.isU8, strOf, load, store, fieldOf, append, room, fill, placeOf, splice, repl, chunks, Ty.val, Ty.agg, V.plain, H.row, H.ety, AObj.row, Nat.reduceAdd, ↓reduceIte, Nat.reduceEqDiff, Nat.reduceBEq, Nat.reduceBNe, Nat.reduceLT, Int.reduceToNat, Int.reduceEq, Int.reduceLT, Int.reduceLE, reduceCtorEq, Nat.reduceMul, Nat.reduceLeDiff, S_api_Node.enc_eq, hg0, hgl0, hs0, hsl0, hgL, hgL0, hsL, hsL0, hlen]
    rw [wp_ret]
    simp only [retQ, results, resultAll, resultOne, Nat.zero_add, RC, RL, RM, ↓evs_eq, buildOk, lookup, lookV, update, elemOf, Option.isSome_map, unOp, wanted, aop, tkB, neD, Env.get, Env.put, Env.keep, putD, dstOk, ev, constV, nilSlice, V.demote, V.toOwn, V.cells, ty, R1.res, binOp, isShift, binOpT, isC, intOp, strOp, shiftOp, byteV, index, indexAddr, slice, bounds, hiB, loB, withB, maxV, minV, evs, pickV, lenV, builtin, initEnv, convert, K.isU8, strOf, load, store, fieldOf, append, room, fill, placeOf, splice, repl, chunks, Ty.val, Ty.agg, V.plain, H.row, H.ety, AObj.row, Nat.reduceAdd, ↓reduceIte, Nat.reduceEqDiff, Nat.reduceBEq, Nat.reduceBNe, Nat.reduceLT, Int.reduceToNat, Int.reduceEq, Int.reduceLT, Int.reduceLE, reduceCtorEq, Nat.reduceMul, Nat.reduceLeDiff, S_api_Node.enc_eq, hg0, hgl0, hs0, hsl0, hgL, hgL0, hsL, hsL0, hlen]
    refine ⟨_, (.refl _), ?_⟩
    refine leave_okA (by simp only [List.length_set]) (okA_set1 (okA_base _ _) (cl_cons (.func _ _ _ cl_nil (cl_cons (.ref _ _ (by first | omega | (simp only [List.length_append, List.length_cons, List.length_nil, List.length_set]; omega))) cl_nil)) cl_nil)) rfl (.int _ _) ?_
    rw [set_same h00]
    exact hK _ hq
  · rw [wp_seq]
    rw [wp_region]
    simp only [RC, RL, RM, ↓evs_eq, buildOk, lookup, lookV, update, elemOf, Option.isSome_map, unOp, wanted, aop, tkB, neD, Env.get, Env.put, Env.keep, putD, dstOk, ev, constV, nilSlice, V.demote, V.toOwn, V.cells, ty, R1.res, binOp, isShift, binOpT, isC, intOp, strOp, shiftOp, byteV, index, indexAddr, slice, bounds, hiB, loB, withB, maxV, minV, evs, pickV, lenV, builtin, initEnv, convert, K.isU8, strOf, load, store, fieldOf, append, room, fill, placeOf, splice, repl, chunks, Ty.val, Ty.agg, V.plain, H.row, H.ety, AObj.row, Nat.reduceAdd, ↓reduceIte, Nat.reduceEqDiff, Nat.reduceBEq, Nat.reduceBNe, Nat.reduceLT, Int.reduceToNat, Int.reduceEq, Int.reduceLT, Int.reduceLE, reduceCtorEq, Nat.reduceMul, Nat.reduceLeDiff, S_api_Node.enc_eq, hg0, hgl0, hs0, hsl0, hgL, hgL0, hsL, hsL0, hlen]
    rw [wp_block]
    refine loop_in ?_
    refine Wk.le (EnvLe.cons (.top _) (EnvLe.cons (.refl _) (EnvLe.cons (.refl _) (EnvLe.cons (.top _) (EnvLe.cons (.top _) (EnvLe.cons (.refl _) (EnvLe.cons (.refl _) (EnvLe.cons (.refl _) (EnvLe.cons (.refl _) (EnvLe.cons (.refl _) (EnvLe.cons (.refl _) (EnvLe.cons (.refl _) EnvLe.nil)))))))))))) ?_
    obtain ⟨K82, hK83, hq⟩ := R.post_cut hq
    refine loop_gen (acall_mono hp) (σ := V × V × V × Int × V × Int × V × V) (fun s => [(0, s.1), (1, .int .i64 x1), (2, .ref id0 0), (3, s.2.1), (5, s.2.2.1), (6, .int .i64 s.2.2.2.1), (8, s.2.2.2.2.1), (11, .sl 8 (List.map S_api_Node.enc x0.Kids)), (12, .int .i64 (List.length x0.Kids : Int)), (13, .int .i64 s.2.2.2.2.2.1), (14, s.2.2.2.2.2.2.1), (18, s.2.2.2.2.2.2.2)]) (fun s => (List.set h id0 (.cells 37 [.func (.func 22) [] [.ref id0 0]])) ++ [.cells 24 [.int .i64 x0.Kind, .str x0.Text, .int .i64 x0.N, .int .i64 x0.M, .int .i64 x0.A, .int .i64 x0.At, .str x0.Doc, .sl 8 (List.map S_api_Node.enc x0.Kids)]]) (fun k s => (node_Deep_1_l1 self_node_Deep_1 x0 x1 k s.2.2.2.1 s.2.2.2.2.2.1).post K82 X) (fun s hs => hs) (fun k97 s hq N hN84 => ?_) _ (_, _, _, x1, _, 0, _, _) hq
    obtain ⟨y0_69, y3_69, y5_69, x6_69, y8_69, x13_69, y14_69, y18_69⟩ := s
    try dsimp only at hq ⊢
    rw [node_Deep_1_l1] at hq
    rw [wp_seq]
    rw [wp_region]
    simp only [RC, RL, RM, ↓evs_eq, buildOk, lookup, lookV, update, elemOf, Option.isSome_map, unOp, wanted, aop, tkB, neD, Env.get, Env.put, Env.keep, putD, dstOk, ev, constV, nilSlice, V.demote, V.toOwn, V.cells, ty, R1.res, binOp, isShift, binOpT, isC, intOp, strOp, shiftOp, byteV, index, indexAddr, slice, bounds, hiB, loB, withB, maxV, minV, evs, pickV, lenV, builtin, initEnv, convert, K.isU8, strOf, load, store, fieldOf, append, room, fill, placeOf, splice, repl, chunks, Ty.val, Ty.agg, V.plain, H.row, H.ety, AObj.row, Nat.reduceAdd, ↓reduceIte, Nat.reduceEqDiff, Nat.reduceBEq, Nat.reduceBNe, Nat.reduceLT, Int.reduceToNat, Int.reduceEq, Int.reduceLT, Int.reduceLE, reduceCtorEq, Nat.reduceMul, Nat.reduceLeDiff, S_api_Node.enc_eq, hg0, hgl0, hs0, hsl0, hgL, hgL0, hsL, hsL0, hlen]
    rw [wp_seq]
    rw [wp_cond]
    simp only [RC, RL, RM, ↓evs_eq, buildOk, lookup, lookV, update, elemOf, Option.isSome_map, unOp, wanted, aop, tkB, neD, Env.get, Env.put, Env.keep, putD, dstOk, ev, constV, nilSlice, V.demote, V.toOwn, V.cells, ty, R1.res, binOp, isShift, binOpT, isC, intOp, strOp, shiftOp, byteV, index, indexAddr, slice, bounds, hiB, loB, withB, maxV, minV, evs, pickV, lenV, builtin, initEnv, convert, K.isU8, strOf, load, store, fieldOf, append, room, fill, placeOf, splice, repl, chunks, Ty.val, Ty.agg, V.plain, H.row, H.ety, AObj.row, Nat.reduceAdd, ↓reduceIte, Nat.reduceEqDiff, Nat.reduceBEq, Nat.reduceBNe, Nat.reduceLT, Int.reduceToNat, Int.reduceEq, Int.reduceLT, Int.reduceLE, reduceCtorEq, Nat.reduceMul, Nat.reduceLeDiff, S_api_Node.enc_eq, hg0, hgl0, hs0, hsl0, hgL, hgL0, hsL, hsL0, hlen]
    by_cases hc85 : x13_69 < (List.length x0.Kids : Int)
    · replace hq := (R.post_if hq).1 hc85
      refine condK_t (congrArg V.bool (decide_eq_true hc85)) ?_
      try simp only [wp_skip, RC]
      refine Wk.same ?_
      try simp only [RC]
      rw [wp_seq]
      rw [wp_block]
      rw [wp_seq]
      rw [wp_region]
      obtain ⟨g88, hq⟩ := R.guard hq
      have e89 := map_gt (f := S_api_Node.enc) (l := x0.Kids) (i := x13_69) g88
      simp only [e89, RC, RL, RM, ↓evs_eq, buildOk, lookup, lookV, update, elemOf, Option.isSome_map, unOp, wanted, aop, tkB, neD, Env.get, Env.put, Env.keep, putD, dstOk, ev, constV, nilSlice, V.demote, V.toOwn, V.cells, ty, R1.res, binOp, isShift, binOpT, isC, intOp, strOp, shiftOp, byteV, index, indexAddr, slice, bounds, hiB, loB, withB, maxV, minV, evs, pickV, lenV, builtin, initEnv, convert, K.isU8, strOf, load, store, fieldOf, append, room, fill, placeOf, splice, repl, chunks, Ty.val, Ty.agg, V.plain, H.row, H.ety, AObj.row, Nat.reduceAdd, ↓reduceIte, Nat.reduceEqDiff, Nat.reduceBEq, Nat.reduceBNe, Nat.reduceLT, Int.reduceToNat, Int.reduceEq, Int.reduceLT, Int.reduceLE, reduceCtorEq, Nat.reduceMul, Nat.reduceLeDiff, S_api_Node.enc_eq, hg0, hgl0, hs0, hsl0, hgL, hgL0, hsL, hsL0, hlen]
      repeat (with_reducible refine And.intro (by omega) ?_)
      rw [wp_seq]
      rw [wp_seq]
      rw [wp_region]
      simp only [RC, RL, RM, ↓evs_eq, buildOk, lookup, lookV, update, elemOf, Option.isSome_map, unOp, wanted, aop, tkB, neD, Env.get, Env.put, Env.keep, putD, dstOk, ev, constV, nilSlice, V.demote, V.toOwn, V.cells, ty, R1.res, binOp, isShift, binOpT, isC, intOp, strOp, shiftOp, byteV, index, indexAddr, slice, bounds, hiB, loB, withB, maxV, minV, evs, pickV, lenV, builtin, initEnv, convert, K.isU8, strOf, load, store, fieldOf, append, room, fill, placeOf, splice, repl, chunks, Ty.val, Ty.agg, V.plain, H.row, H.ety, AObj.row, Nat.reduceAdd, ↓reduceIte, Nat.reduceEqDiff, Nat.reduceBEq, Nat.reduceBNe, Nat.reduceLT, Int.reduceToNat, Int.reduceEq, Int.reduceLT, Int.reduceLE, reduceCtorEq, Nat.reduceMul, Nat.reduceLeDiff, S_api_Node.enc_eq, hg0, hgl0, hs0, hsl0, hgL, hgL0, hsL, hsL0, hlen]
      rw [wp_cond]
      simp only [RC, RL, RM, ↓evs_eq, buildOk, lookup, lookV, update, elemOf, Option.isSome_map, unOp, wanted, aop, tkB, neD, Env.get, Env.put, Env.keep, putD, dstOk, ev, constV, nilSlice, V.demote, V.toOwn, V.cells, ty, R1.res, binOp, isShift, binOpT, isC, intOp, strOp, shiftOp, byteV, index, indexAddr, slice, bounds, hiB, loB, withB, maxV, minV, evs, pickV, lenV, builtin, initEnv, convert, K.isU8, strOf, load, store, fieldOf, append, room, fill, placeOf, splice, repl, chunks, Ty.val, Ty.agg, V.plain, H.row, H.ety, AObj.row, Nat.reduceAdd, ↓reduceIte, Nat.reduceEqDiff, Nat.reduceBEq, Nat.reduceBNe, Nat.reduceLT, Int.reduceToNat, Int.reduceEq, Int.reduceLT, Int.reduceLE, reduceCtorEq, Nat.reduceMul, Nat.reduceLeDiff, S_api_Node.enc_eq, hg0, hgl0, hs0, hsl0, hgL, hgL0, hsL, hsL0, hlen]
      by_cases hc90 : (64 : Int) < x6_69
      · replace hq := (R.post_if hq).1 hc90
        refine condK_t (congrArg V.bool (decide_eq_true hc90)) ?_
        rw [wp_exit]
        try simp only [↓reduceIte, Nat.reduceEqDiff, reduceCtorEq, if_false, if_true, eq_self, Nat.succ_ne_self, RC]
        replace hq := hK83 _ hq
        try dsimp only at hq
        refine Wk.dropA (L := [.cells 24 [.int .i64 x0.Kind, .str x0.Text, .int .i64 x0.N, .int .i64 x0.M, .int .i64 x0.A, .int .i64 x0.At, .str x0.Doc, .sl 8 (List.map S_api_Node.enc x0.Kids)]]) (New := [.cells 24 [.int .i64 ((gt x0.Kids x13_69).Kind), .str (gt x0.Kids x13_69).Text, .int .i64 ((gt x0.Kids x13_69).N), .int .i64 ((gt x0.Kids x13_69).M), .int .i64 ((gt x0.Kids x13_69).A), .int .i64 ((gt x0.Kids x13_69).At), .str (gt x0.Kids x13_69).Doc, .sl 8 (List.map S_api_Node.enc (gt x0.Kids x13_69).Kids)]]) (by simp only [List.length_set]) rfl (okA_set (okA_base _ _) (cl_cons (.func _ _ _ cl_nil (cl_cons (.ref _ _ (by first | omega | (simp only [List.length_append, List.length_cons, List.length_nil, List.length_set]; omega))) cl_nil)) cl_nil)) (EnvLe.cons (.top _) (EnvLe.cons (.refl _) (EnvLe.cons (.refl _) (EnvLe.cons (.top _) (EnvLe.cons (.top _) (EnvLe.cons (.refl _) (EnvLe.cons (.top _) (EnvLe.cons (.top _) (EnvLe.cons (.top _) (EnvLe.cons (.top _) (EnvLe.cons (.top _) (EnvLe.cons (.top _) EnvLe.nil)))))))))))) (EnvCl.cons .top (EnvCl.cons (.int _ _) (EnvCl.cons (.ref _ _ (by first | omega | (simp only [List.length_append, List.length_cons, List.length_nil, List.length_set]; omega))) (EnvCl.cons .top (EnvCl.cons .top (EnvCl.cons (.int _ _) (EnvCl.cons .top (EnvCl.cons .top (EnvCl.cons .top (EnvCl.cons .top (EnvCl.cons .top (EnvCl.cons .top (EnvCl.nil _))))))))))))) (objcl_cons (cl_cons (.int _ _) (cl_cons (.str _) (cl_cons (.int _ _) (cl_cons (.int _ _) (cl_cons (.int _ _) (cl_cons (.int _ _) (cl_cons (.str _) (cl_cons (.sl _ _ (cl_map (S_api_Node.cl _))) cl_nil)))))))) objcl_nil) ?_
        try simp only [RC]
        exact hN55 (_, _, _, x6_69, _, _, _, _, _, _) hq
      · replace hq := (R.post_if hq).2 hc90
        refine condK_f (congrArg V.bool (decide_eq_false hc90)) ?_
        try simp only [wp_skip, RC]
        refine Wk.same ?_
        try simp only [RC]
        rw [wp_region]
        simp only [RC, RL, RM, ↓evs_eq, buildOk, lookup, lookV, update, elemOf, Option.isSome_map, unOp, wanted, aop, tkB, neD, Env.get, Env.put, Env.keep, putD, dstOk, ev, constV, nilSlice, V.demote, V.toOwn, V.cells, ty, R1.res, binOp, isShift, binOpT, isC, intOp, strOp, shiftOp, byteV, index, indexAddr, slice, bounds, hiB, loB, withB, maxV, minV, evs, pickV, lenV, builtin, initEnv, convert, K.isU8, strOf, load, store, fieldOf, append, room, fill, placeOf, splice, repl, chunks, Ty.val, Ty.agg, V.plain, H.row, H.ety, AObj.row, Nat.reduceAdd, ↓reduceIte, Nat.reduceEqDiff, Nat.reduceBEq, Nat.reduceBNe, Nat.reduceLT, Int.reduceToNat, Int.reduceEq, Int.reduceLT, Int.reduceLE, reduceCtorEq, Nat.reduceMul, Nat.reduceLeDiff, S_api_Node.enc_eq, hg0, hgl0, hs0, hsl0, hgL, hgL0, hsL, hsL0, hlen]
        obtain ⟨K95, hK96, hq⟩ := R.post_cut_sure hq
        refine ih_node_Deep_1 (x0 := (gt x0.Kids x13_69)) (x1 := (IntKind.wrap .i64 (x1 + 1))) (id0 := id0) (by first | (simp only [RC, RL, RM, ↓evs_eq, buildOk, lookup, lookV, update, elemOf, Option.isSome_map, unOp, wanted, aop, tkB, neD, Env.get, Env.put, Env.keep, putD, dstOk, ev, constV, nilSlice, V.demote, V.toOwn, V.cells, ty, R1.res, binOp, isShift, binOpT, isC, intOp, strOp, shiftOp, byteV, index, indexAddr, slice, bounds, hiB, loB, withB, maxV, minV, evs, pickV, lenV, builtin, initEnv, convert, K.isU8, strOf, load, store, fieldOf, append, room, fill, placeOf, splice, repl, chunks, Ty.val, Ty.agg, V.plain, H.row, H.ety, AObj.row, Nat.reduceAdd, ↓reduceIte, Nat.reduceEqDiff, Nat.reduceBEq, Nat.reduceBNe, Nat.reduceLT, Int.reduceToNat, Int.reduceEq, Int.reduceLT, Int.reduceLE, reduceCtorEq, Nat.reduceMul, Nat.reduceLeDiff, S_api_Node.enc_eq, hg0, hgl0, hs0, hsl0, hgL, hgL0, hsL, hsL0, hlen] <;> rfl) | assumption | rfl) hq (fun r94 hq => ?_) (fun v hv => hv.elim)
        replace hq := hK96 _ hq
        simp only [RC, RL, RM, ↓evs_eq, buildOk, lookup, lookV, update, elemOf, Option.isSome_map, unOp, wanted, aop, tkB, neD, Env.get, Env.put, Env.keep, putD, dstOk, ev, constV, nilSlice, V.demote, V.toOwn, V.cells, ty, R1.res, binOp, isShift, binOpT, isC, intOp, strOp, shiftOp, byteV, index, indexAddr, slice, bounds, hiB, loB, withB, maxV, minV, evs, pickV, lenV, builtin, initEnv, convert, K.isU8, strOf, load, store, fieldOf, append, room, fill, placeOf, splice, repl, chunks, Ty.val, Ty.agg, V.plain, H.row, H.ety, AObj.row, Nat.reduceAdd, ↓reduceIte, Nat.reduceEqDiff, Nat.reduceBEq, Nat.reduceBNe, Nat.reduceLT, Int.reduceToNat, Int.reduceEq, Int.reduceLT, Int.reduceLE, reduceCtorEq, Nat.reduceMul, Nat.reduceLeDiff, S_api_Node.enc_eq, hg0, hgl0, hs0, hsl0, hgL, hgL0, hsL, hsL0, hlen]
        refine Wk.dropA (L := [.cells 24 [.int .i64 x0.Kind, .str x0.Text, .int .i64 x0.N, .int .i64 x0.M, .int .i64 x0.A, .int .i64 x0.At, .str x0.Doc, .sl 8 (List.map S_api_Node.enc x0.Kids)]]) (New := [.cells 24 [.int .i64 ((gt x0.Kids x13_69).Kind), .str (gt x0.Kids x13_69).Text, .int .i64 ((gt x0.Kids x13_69).N), .int .i64 ((gt x0.Kids x13_69).M), .int .i64 ((gt x0.Kids x13_69).A), .int .i64 ((gt x0.Kids x13_69).At), .str (gt x0.Kids x13_69).Doc, .sl 8 (List.map S_api_Node.enc (gt x0.Kids x13_69).Kids)]]) (by simp only [List.length_set]) rfl (okA_set (okA_base _ _) (cl_cons (.func _ _ _ cl_nil (cl_cons (.ref _ _ (by first | omega | (simp only [List.length_append, List.length_cons, List.length_nil, List.length_set]; omega))) cl_nil)) cl_nil)) (EnvLe.cons (.top _) (EnvLe.cons (.refl _) (EnvLe.cons (.refl _) (EnvLe.cons (.top _) (EnvLe.cons (.top _) (EnvLe.cons (.refl _) (EnvLe.cons (.top _) (EnvLe.cons (.refl _) (EnvLe.cons (.refl _) (EnvLe.cons (.refl _) (EnvLe.cons (.top _) (EnvLe.cons (.top _) EnvLe.nil)))))))))))) (EnvCl.cons .top (EnvCl.cons (.int _ _) (EnvCl.cons (.ref _ _ (by first | omega | (simp only [List.length_append, List.length_cons, List.length_nil, List.length_set]; omega))) (EnvCl.cons .top (EnvCl.cons .top (EnvCl.cons (.int _ _) (EnvCl.cons .top (EnvCl.cons (.sl _ _ (cl_map (S_api_Node.cl _))) (EnvCl.cons (.int _ _) (EnvCl.cons (.int _ _) (EnvCl.cons .top (EnvCl.cons .top (EnvCl.nil _))))))))))))) (objcl_cons (cl_cons (.int _ _) (cl_cons (.str _) (cl_cons (.int _ _) (cl_cons (.int _ _) (cl_cons (.int _ _) (cl_cons (.int _ _) (cl_cons (.str _) (cl_cons (.sl _ _ (cl_map (S_api_Node.cl _))) cl_nil)))))))) objcl_nil) ?_
        try simp only [RC]
        rw [wp_region]
        simp only [RC, RL, RM, ↓evs_eq, buildOk, lookup, lookV, update, elemOf, Option.isSome_map, unOp, wanted, aop, tkB, neD, Env.get, Env.put, Env.keep, putD, dstOk, ev, constV, nilSlice, V.demote, V.toOwn, V.cells, ty, R1.res, binOp, isShift, binOpT, isC, intOp, strOp, shiftOp, byteV, index, indexAddr, slice, bounds, hiB, loB, withB, maxV, minV, evs, pickV, lenV, builtin, initEnv, convert, K.isU8, strOf, load, store, fieldOf, append, room, fill, placeOf, splice, repl, chunks, Ty.val, Ty.agg, V.plain, H.row, H.ety, AObj.row, Nat.reduceAdd, ↓reduceIte, Nat.reduceEqDiff, Nat.reduceBEq, Nat.reduceBNe, Nat.reduceLT, Int.reduceToNat, Int.reduceEq, Int.reduceLT, Int.reduceLE, reduceCtorEq, Nat.reduceMul, Nat.reduceLeDiff, S_api_Node.enc_eq, hg0, hgl0, hs0, hsl0, hgL, hgL0, hsL, hsL0, hlen]
        refine Wk.same ?_
        exact hN84 (_, _, _, (if x6_69 < r94 then r94 else x6_69), _, (IntKind.wrap .i64 (x13_69 + 1)), _, _) hq
    · replace hq := (R.post_if hq).2 hc85
      refine condK_f (congrArg V.bool (decide_eq_false hc85)) ?_
      rw [wp_exit]
      try simp only [↓reduceIte, Nat.reduceEqDiff, reduceCtorEq, if_false, if_true, eq_self, Nat.succ_ne_self, RC]
      replace hq := hK83 _ hq
      try dsimp only at hq
      refine Wk.le (EnvLe.cons (.refl _) (EnvLe.cons (.refl _) (EnvLe.cons (.refl _) (EnvLe.cons (.refl _) (EnvLe.cons (.refl _) (EnvLe.cons (.refl _) (EnvLe.cons (.refl _) (EnvLe.cons (.top _) (EnvLe.cons (.top _) (EnvLe.cons (.top _) (EnvLe.cons (.top _) (EnvLe.cons (.refl _) EnvLe.nil)))))))))))) ?_
      try simp only [RC]
      exact hN55 (_, _, _, x6_69, _, _, _, _, _, _) hq
theorem node_Deep_1_ih (k : Nat) : ∀ {h : H} {x0 : S_api_Node} {x1 : Int} {Q : Out → H → Prop} {id0 : Nat} (h00 : h[id0]? = some (.cells 37 [.func (.func 22) [] [.ref id0 0]])) {KK : (Int) → Prop} {X : V → Prop} (hq : (node_Deep_1_n k x0 x1).post KK X) (hK : ∀ r, KK r → Q (.ret (.int .i64 r)) h) (hX : ∀ v, X v → False), CA qprim 22 [.agg [.int .i64 x0.Kind, .str x0.Text, .int .i64 x0.N, .int .i64 x0.M, .int .i64 x0.A, .int .i64 x0.At, .str x0.Doc, .sl 8 (List.map S_api_Node.enc x0.Kids)], .int .i64 x1, .ref id0 0] h Q := by
  induction k with
  | zero => intro h x0 x1 Q id0 h00 KK X hq; exact False.elim hq
  | succ k ih => intro h x0 x1 Q id0 h00 KK X hq hK hX; exact node_Deep_1_b_call (ih_node_Deep_1 := ih) h00 hq hK hX
theorem node_Deep_1_call {h : H} {x0 : S_api_Node} {x1 : Int} {Q : Out → H → Prop} {id0 : Nat} (h00 : h[id0]? = some (.cells 37 [.func (.func 22) [] [.ref id0 0]])) {KK : (Int) → Prop} {X : V → Prop} (hq : (node_Deep_1 x0 x1).post KK X) (hK : ∀ r, KK r → Q (.ret (.int .i64 r)) h) (hX : ∀ v, X v → False) : CA qprim 22 [.agg [.int .i64 x0.Kind, .str x0.Text, .int .i64 x0.N, .int .i64 x0.M, .int .i64 x0.A, .int .i64 x0.At, .str x0.Doc, .sl 8 (List.map S_api_Node.enc x0.Kids)], .int .i64 x1, .ref id0 0] h Q := node_Deep_1_ih Many h00 hq hK hX

def node_Deep (x0 : S_api_Node) : R (Int) :=
  (node_Deep_1 x0 1).sure.bind fun r11 => if r11 ≤ 64 then (R.ok r11) else (R.ok 100)
theorem node_Deep_call {h : H} {x0 : S_api_Node} {Q : Out → H → Prop} {KK : (Int) → Prop} {X : V → Prop} (hq : (node_Deep x0).post KK X) (hK : ∀ r, KK r → Q (.ret (.int .i64 r)) h) (hX : ∀ v, X v → V.Cl 0 v ∧ Q (.panic v) h) : CA qprim 11 [.agg [.int .i64 x0.Kind, .str x0.Text, .int .i64 x0.N, .int .i64 x0.M, .int .i64 x0.A, .int .i64 x0.At, .str x0.Doc, .sl 8 (List.map S_api_Node.enc x0.Kids)]] h Q := by
  refine acalln hp Tryd.func11 rfl (by kernel_rfl) (n := 12) rfl (rs := [.tmp 2]) rfl [0, 1, 2, 3, 4, 10] [] true (by simp) ?_
  unfold node_Deep at hq
  simp only [initEnv, List.map_cons, List.map_nil, List.getD_cons_zero, List.getD_cons_succ, List.getD_nil, V.demote]
  rw [wp_seq]
  rw [wp_region]
  simp only [RC, RL, RM, ↓evs_eq, buildOk, lookup, lookV, update, elemOf, Option.isSome_map, unOp, wanted, aop, tkB, neD, Env.get, Env.put, Env.keep, putD, dstOk, ev, constV, nilSlice, V.demote, V.toOwn, V.cells, ty, R1.res, binOp, isShift, binOpT, isC, intOp, strOp, shiftOp, byteV, index, indexAddr, slice, bounds, hiB, loB, withB, maxV, minV, evs, pickV, lenV, builtin, initEnv, convert, K.isU8, strOf, load, store, fieldOf, append, room, fill, placeOf, splice, repl, chunks, Ty.val, Ty.agg, V.plain, H.row, H.ety, AObj.row, Nat.reduceAdd, ↓reduceIte, Nat.reduceEqDiff, Nat.reduceBEq, Nat.reduceBNe, Nat.reduceLT, Int.reduceToNat, Int.reduceEq, Int.reduceLT, Int.reduceLE, reduceCtorEq, Nat.reduceMul, Nat.reduceLeDiff, S_api_Node.enc_eq]
  rw [wp_seq]
  rw [wp_region]
  simp only [RC, RL, RM, ↓evs_eq, buildOk, lookup, lookV, update, elemOf, Option.isSome_map, unOp, wanted, aop, tkB, neD, Env.get, Env.put, Env.keep, putD, dstOk, ev, constV, nilSlice, V.demote, V.toOwn, V.cells, ty, R1.res, binOp, isShift, binOpT, isC, intOp, strOp, shiftOp, byteV, index, indexAddr, slice, bounds, hiB, loB, withB, maxV, minV, evs, pickV, lenV, builtin, initEnv, convert, K.isU8, strOf, load, store, fieldOf, append, room, fill, placeOf, splice, repl, chunks, Ty.val, Ty.agg, V.plain, H.row, H.ety, AObj.row, Nat.reduceAdd, ↓reduceIte, Nat.reduceEqDiff, Nat.reduceBEq, Nat.reduceBNe, Nat.reduceLT, Int.reduceToNat, Int.reduceEq, Int.reduceLT, Int.reduceLE, reduceCtorEq, Nat.reduceMul, Nat.reduceLeDiff, S_api_Node.enc_eq]
  rw [wp_seq]
  rw [wp_region]
  simp only [RC, RL, RM, ↓evs_eq, buildOk, lookup, lookV, update, elemOf, Option.isSome_map, unOp, wanted, aop, tkB, neD, Env.get, Env.put, Env.keep, putD, dstOk, ev, constV, nilSlice, V.demote, V.toOwn, V.cells, ty, R1.res, binOp, isShift, binOpT, isC, intOp, strOp, shiftOp, byteV, index, indexAddr, slice, bounds, hiB, loB, withB, maxV, minV, evs, pickV, lenV, builtin, initEnv, convert, K.isU8, strOf, load, store, fieldOf, append, room, fill, placeOf, splice, repl, chunks, Ty.val, Ty.agg, V.plain, H.row, H.ety, AObj.row, Nat.reduceAdd, ↓reduceIte, Nat.reduceEqDiff, Nat.reduceBEq, Nat.reduceBNe, Nat.reduceLT, Int.reduceToNat, Int.reduceEq, Int.reduceLT, Int.reduceLE, reduceCtorEq, Nat.reduceMul, Nat.reduceLeDiff, S_api_Node.enc_eq]
  rw [wp_seq]
  rw [wp_seq]
  rw [wp_region]
  simp only [RC, RL, RM, ↓evs_eq, buildOk, lookup, lookV, update, elemOf, Option.isSome_map, unOp, wanted, aop, tkB, neD, Env.get, Env.put, Env.keep, putD, dstOk, ev, constV, nilSlice, V.demote, V.toOwn, V.cells, ty, R1.res, binOp, isShift, binOpT, isC, intOp, strOp, shiftOp, byteV, index, indexAddr, slice, bounds, hiB, loB, withB, maxV, minV, evs, pickV, lenV, builtin, initEnv, convert, K.isU8, strOf, load, store, fieldOf, append, room, fill, placeOf, splice, repl, chunks, Ty.val, Ty.agg, V.plain, H.row, H.ety, AObj.row, Nat.reduceAdd, ↓reduceIte, Nat.reduceEqDiff, Nat.reduceBEq, Nat.reduceBNe, Nat.reduceLT, Int.reduceToNat, Int.reduceEq, Int.reduceLT, Int.reduceLE, reduceCtorEq, Nat.reduceMul, Nat.reduceLeDiff, S_api_Node.enc_eq]
  obtain ⟨K13, hK14, hq⟩ := R.post_cut_sure hq
  refine node_Deep_1_call (x0 := x0) (x1 := 1) (id0 := (h.length + 1)) (by first | (simp only [RC, RL, RM, ↓evs_eq, buildOk, lookup, lookV, update, elemOf, Option.isSome_map, unOp, wanted, aop, tkB, neD, Env.get, Env.put, Env.keep, putD, dstOk, ev, constV, nilSlice, V.demote, V.toOwn, V.cells, ty, R1.res, binOp, isShift, binOpT, isC, intOp, strOp, shiftOp, byteV, index, indexAddr, slice, bounds, hiB, loB, withB, maxV, minV, evs, pickV, lenV, builtin, initEnv, convert, K.isU8, strOf, load, store, fieldOf, append, room, fill, placeOf, splice, repl, chunks, Ty.val, Ty.agg, V.plain, H.row, H.ety, AObj.row, Nat.reduceAdd, ↓reduceIte, Nat.reduceEqDiff, Nat.reduceBEq, Nat.reduceBNe, Nat.reduceLT, Int.reduceToNat, Int.reduceEq, Int.reduceLT, Int.reduceLE, reduceCtorEq, Nat.reduceMul, Nat.reduceLeDiff, S_api_Node.enc_eq] <;> rfl) | assumption | rfl) hq (fun r11 hq => ?_) (fun v hv => hv.elim)
  replace hq := hK14 _ hq
  simp only [RC, RL, RM, ↓evs_eq, buildOk, lookup, lookV, update, elemOf, Option.isSome_map, unOp, wanted, aop, tkB, neD, Env.get, Env.put, Env.keep, putD, dstOk, ev, constV, nilSlice, V.demote, V.toOwn, V.cells, ty, R1.res, binOp, isShift, binOpT, isC, intOp, strOp, shiftOp, byteV, index, indexAddr, slice, bounds, hiB, loB, withB, maxV, minV, evs, pickV, lenV, builtin, initEnv, convert, K.isU8, strOf, load, store, fieldOf, append, room, fill, placeOf, splice, repl, chunks, Ty.val, Ty.agg, V.plain, H.row, H.ety, AObj.row, Nat.reduceAdd, ↓reduceIte, Nat.reduceEqDiff, Nat.reduceBEq, Nat.reduceBNe, Nat.reduceLT, Int.reduceToNat, Int.reduceEq, Int.reduceLT, Int.reduceLE, reduceCtorEq, Nat.reduceMul, Nat.reduceLeDiff, S_api_Node.enc_eq]
  rw [wp_seq]
  rw [wp_region]
  simp only [RC, RL, RM, ↓evs_eq, buildOk, lookup, lookV, update, elemOf, Option.isSome_map, unOp, wanted, aop, tkB, neD, Env.get, Env.put, Env.keep, putD, dstOk, ev, constV, nilSlice, V.demote, V.toOwn, V.cells, ty, R1.res, binOp, isShift, binOpT, isC, intOp, strOp, shiftOp, byteV, index, indexAddr, slice, bounds, hiB, loB, withB, maxV, minV, evs, pickV, lenV, builtin, initEnv, convert, K.isU8, strOf, load, store, fieldOf, append, room, fill, placeOf, splice, repl, chunks, Ty.val, Ty.agg, V.plain, H.row, H.ety, AObj.row, Nat.reduceAdd, ↓reduceIte, Nat.reduceEqDiff, Nat.reduceBEq, Nat.reduceBNe, Nat.reduceLT, Int.reduceToNat, Int.reduceEq, Int.reduceLT, Int.reduceLE, reduceCtorEq, Nat.reduceMul, Nat.reduceLeDiff, S_api_Node.enc_eq]
  rw [wp_cond]
  simp only [RC, RL, RM, ↓evs_eq, buildOk, lookup, lookV, update, elemOf, Option.isSome_map, unOp, wanted, aop, tkB, neD, Env.get, Env.put, Env.keep, putD, dstOk, ev, constV, nilSlice, V.demote, V.toOwn, V.cells, ty, R1.res, binOp, isShift, binOpT, isC, intOp, strOp, shiftOp, byteV, index, indexAddr, slice, bounds, hiB, loB, withB, maxV, minV, evs, pickV, lenV, builtin, initEnv, convert, K.isU8, strOf, load, store, fieldOf, append, room, fill, placeOf, splice, repl, chunks, Ty.val, Ty.agg, V.plain, H.row, H.ety, AObj.row, Nat.reduceAdd, ↓reduceIte, Nat.reduceEqDiff, Nat.reduceBEq, Nat.reduceBNe, Nat.reduceLT, Int.reduceToNat, Int.reduceEq, Int.reduceLT, Int.reduceLE, reduceCtorEq, Nat.reduceMul, Nat.reduceLeDiff, S_api_Node.enc_eq]
  by_cases hc12 : r11 ≤ 64
  · replace hq := (R.post_if hq).1 hc12
    refine condK_t (congrArg V.bool (decide_eq_true hc12)) ?_
    rw [wp_seq]
    rw [wp_region]
    simp only [RC, RL, RM, ↓evs_eq, buildOk, lookup, lookV, update, elemOf, Option.isSome_map, unOp, wanted, aop, tkB, neD, Env.get, Env.put, Env.keep, putD, dstOk, ev, constV, nilSlice, V.demote, V.toOwn, V.cells, ty, R1.res, binOp, isShift, binOpT, isC, intOp, strOp, shiftOp, byteV, index, indexAddr, slice, bounds, hiB, loB, withB, maxV, minV, evs, pickV, lenV, builtin, initEnv, convert, K.isU8, strOf, load, store, fieldOf, append, room, fill, placeOf, splice, repl, chunks, Ty.val, Ty.agg, V.plain, H.row, H.ety, AObj.row, Nat.reduceAdd, ↓reduceIte, Nat.reduceEqDiff, Nat.reduceBEq, Nat.reduceBNe, Nat.reduceLT, Int.reduceToNat, Int.reduceEq, Int.reduceLT, Int.reduceLE, reduceCtorEq, Nat.reduceMul, Nat.reduceLeDiff, S_api_Node.enc_eq]
    rw [wp_ret]
    simp only [retQ, results, resultAll, resultOne, Nat.zero_add, RC, RL, RM, ↓evs_eq, buildOk, lookup, lookV, update, elemOf, Option.isSome_map, unOp, wanted, aop, tkB, neD, Env.get, Env.put, Env.keep, putD, dstOk, ev, constV, nilSlice, V.demote, V.toOwn, V.cells, ty, R1.res, binOp, isShift, binOpT, isC, intOp, strOp, shiftOp, byteV, index, indexAddr, slice, bounds, hiB, loB, withB, maxV, minV, evs, pickV, lenV, builtin, initEnv, convert, K.isU8, strOf, load, store, fieldOf, append, room, fill, placeOf, splice, repl, chunks, Ty.val, Ty.agg, V.plain, H.row, H.ety, AObj.row, Nat.reduceAdd, ↓reduceIte, Nat.reduceEqDiff, Nat.reduceBEq, Nat.reduceBNe, Nat.reduceLT, Int.reduceToNat, Int.reduceEq, Int.reduceLT, Int.reduceLE, reduceCtorEq, Nat.reduceMul, Nat.reduceLeDiff, S_api_Node.enc_eq]
    refine ⟨_, (.refl _), ?_⟩
    refine leave_ok rfl (.int _ _) ?_
    exact hK _ hq
  · replace hq := (R.post_if hq).2 hc12
    refine condK_f (congrArg V.bool (decide_eq_false hc12)) ?_
    try simp only [wp_skip, RC]
    refine Wk.same ?_
    try simp only [RC]
    rw [wp_seq]
    rw [wp_region]
    simp only [RC, RL, RM, ↓evs_eq, buildOk, lookup, lookV, update, elemOf, Option.isSome_map, unOp, wanted, aop, tkB, neD, Env.get, Env.put, Env.keep, putD, dstOk, ev, constV, nilSlice, V.demote, V.toOwn, V.cells, ty, R1.res, binOp, isShift, binOpT, isC, intOp, strOp, shiftOp, byteV, index, indexAddr, slice, bounds, hiB, loB, withB, maxV, minV, evs, pickV, lenV, builtin, initEnv, convert, K.isU8, strOf, load, store, fieldOf, append, room, fill, placeOf, splice, repl, chunks, Ty.val, Ty.agg, V.plain, H.row, H.ety, AObj.row, Nat.reduceAdd, ↓reduceIte, Nat.reduceEqDiff, Nat.reduceBEq, Nat.reduceBNe, Nat.reduceLT, Int.reduceToNat, Int.reduceEq, Int.reduceLT, Int.reduceLE, reduceCtorEq, Nat.reduceMul, Nat.reduceLeDiff, S_api_Node.enc_eq]
    rw [wp_ret]
    simp only [retQ, results, resultAll, resultOne, Nat.zero_add, RC, RL, RM, ↓evs_eq, buildOk, lookup, lookV, update, elemOf, Option.isSome_map, unOp, wanted, aop, tkB, neD, Env.get, Env.put, Env.keep, putD, dstOk, ev, constV, nilSlice, V.demote, V.toOwn, V.cells, ty, R1.res, binOp, isShift, binOpT, isC, intOp, strOp, shiftOp, byteV, index, indexAddr, slice, bounds, hiB, loB, withB, maxV, minV, evs, pickV, lenV, builtin, initEnv, convert, K.isU8, strOf, load, store, fieldOf, append, room, fill, placeOf, splice, repl, chunks, Ty.val, Ty.agg, V.plain, H.row, H.ety, AObj.row, Nat.reduceAdd, ↓reduceIte, Nat.reduceEqDiff, Nat.reduceBEq, Nat.reduceBNe, Nat.reduceLT, Int.reduceToNat, Int.reduceEq, Int.reduceLT, Int.reduceLE, reduceCtorEq, Nat.reduceMul, Nat.reduceLeDiff, S_api_Node.enc_eq]
    refine ⟨_, (.refl _), ?_⟩
    refine leave_ok rfl (.int _ _) ?_
    exact hK _ hq
end Go.Proofs.YtnpobhbpbefciaaDoor.Pv
