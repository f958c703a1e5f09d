/- Functions of the program, as plain Lean functions, and that the code comes to them: printed by gen.py. -/
import Derived.Test.YtgbgnglngpbehaaQP
set_option linter.unusedVariables false
set_option linter.unusedSimpArgs false
set_option maxHeartbeats 4000000
set_option maxRecDepth 10000
namespace Go.Proofs.Ytgbgnglngpbehaa.Pv
open Go Go.Proofs

def glossaryref01_Text_j0 (x3_99 : List UInt8) : R ((List UInt8)) :=
  if List.length ([34]) + List.length x3_99 ≤ 1000000000 then (if List.length (([34]) ++ x3_99) + List.length ([34]) ≤ 1000000000 then (R.ok ((([34]) ++ x3_99) ++ ([34]))) else R.stuck) else R.stuck
def glossaryref01_Text_l1 (x0 : List UInt8) : Nat → List UInt8 → Int → R ((List UInt8))
  | 0, _, _ => R.stuck
  | k + 1, x3_105, x8_105 => if x8_105 < (List.length x0 : Int) then (if 0 ≤ x8_105 ∧ x8_105 < (List.length x0 : Int) then ((if ((gt x0 x8_105).toNat : Int) = 34 then (R.ok true) else (R.ok (decide (((gt x0 x8_105).toNat : Int) = 92)))).bind fun x33m163 => if x33m163 = true then (if List.length ([92]) + List.length ((Utf8.encode (IntKind.wrap .i32 ((gt x0 x8_105).toNat : Int))).data.toList) ≤ 1000000000 then (if List.length x3_105 + List.length (([92]) ++ ((Utf8.encode (IntKind.wrap .i32 ((gt x0 x8_105).toNat : Int))).data.toList)) ≤ 1000000000 then (glossaryref01_Text_l1 x0 k (x3_105 ++ (([92]) ++ ((Utf8.encode (IntKind.wrap .i32 ((gt x0 x8_105).toNat : Int))).data.toList))) (IntKind.wrap .i64 (x8_105 + 1))) else R.stuck) else R.stuck) else (if ((gt x0 x8_105).toNat : Int) = 9 then (if List.length x3_105 + List.length ([92, 116]) ≤ 1000000000 then (glossaryref01_Text_l1 x0 k (x3_105 ++ ([92, 116])) (IntKind.wrap .i64 (x8_105 + 1))) else R.stuck) else (if ((gt x0 x8_105).toNat : Int) = 10 then (if List.length x3_105 + List.length ([92, 110]) ≤ 1000000000 then (glossaryref01_Text_l1 x0 k (x3_105 ++ ([92, 110])) (IntKind.wrap .i64 (x8_105 + 1))) else R.stuck) else (if ((gt x0 x8_105).toNat : Int) = 13 then (if List.length x3_105 + List.length ([92, 114]) ≤ 1000000000 then (glossaryref01_Text_l1 x0 k (x3_105 ++ ([92, 114])) (IntKind.wrap .i64 (x8_105 + 1))) else R.stuck) else ((if (32 : Int) ≤ ((gt x0 x8_105).toNat : Int) then (R.ok (decide (((gt x0 x8_105).toNat : Int) ≤ 126))) else (R.ok false)).bind fun x61m183 => if x61m183 = true then (if List.length x3_105 + List.length ((Utf8.encode (IntKind.wrap .i32 ((gt x0 x8_105).toNat : Int))).data.toList) ≤ 1000000000 then (glossaryref01_Text_l1 x0 k (x3_105 ++ ((Utf8.encode (IntKind.wrap .i32 ((gt x0 x8_105).toNat : Int))).data.toList)) (IntKind.wrap .i64 (x8_105 + 1))) else R.stuck) else (if List.length ([92]) + List.length ((Utf8.encode (IntKind.wrap .i32 ((u8 (IntKind.wrap .u8 (48 + ((u8 (IntKind.wrap .u8 (Int.tdiv ((gt x0 x8_105).toNat : Int) 64))).toNat : Int)))).toNat : Int))).data.toList) ≤ 1000000000 then (if List.length (([92]) ++ ((Utf8.encode (IntKind.wrap .i32 ((u8 (IntKind.wrap .u8 (48 + ((u8 (IntKind.wrap .u8 (Int.tdiv ((gt x0 x8_105).toNat : Int) 64))).toNat : Int)))).toNat : Int))).data.toList)) + List.length ((Utf8.encode (IntKind.wrap .i32 ((u8 (IntKind.wrap .u8 (48 + ((u8 (Int.tmod ((u8 (IntKind.wrap .u8 (Int.tdiv ((gt x0 x8_105).toNat : Int) 8))).toNat : Int) 8)).toNat : Int)))).toNat : Int))).data.toList) ≤ 1000000000 then (if List.length ((([92]) ++ ((Utf8.encode (IntKind.wrap .i32 ((u8 (IntKind.wrap .u8 (48 + ((u8 (IntKind.wrap .u8 (Int.tdiv ((gt x0 x8_105).toNat : Int) 64))).toNat : Int)))).toNat : Int))).data.toList)) ++ ((Utf8.encode (IntKind.wrap .i32 ((u8 (IntKind.wrap .u8 (48 + ((u8 (Int.tmod ((u8 (IntKind.wrap .u8 (Int.tdiv ((gt x0 x8_105).toNat : Int) 8))).toNat : Int) 8)).toNat : Int)))).toNat : Int))).data.toList)) + List.length ((Utf8.encode (IntKind.wrap .i32 ((u8 (IntKind.wrap .u8 (48 + ((u8 (Int.tmod ((gt x0 x8_105).toNat : Int) 8)).toNat : Int)))).toNat : Int))).data.toList) ≤ 1000000000 then (if List.length x3_105 + List.length (((([92]) ++ ((Utf8.encode (IntKind.wrap .i32 ((u8 (IntKind.wrap .u8 (48 + ((u8 (IntKind.wrap .u8 (Int.tdiv ((gt x0 x8_105).toNat : Int) 64))).toNat : Int)))).toNat : Int))).data.toList)) ++ ((Utf8.encode (IntKind.wrap .i32 ((u8 (IntKind.wrap .u8 (48 + ((u8 (Int.tmod ((u8 (IntKind.wrap .u8 (Int.tdiv ((gt x0 x8_105).toNat : Int) 8))).toNat : Int) 8)).toNat : Int)))).toNat : Int))).data.toList)) ++ ((Utf8.encode (IntKind.wrap .i32 ((u8 (IntKind.wrap .u8 (48 + ((u8 (Int.tmod ((gt x0 x8_105).toNat : Int) 8)).toNat : Int)))).toNat : Int))).data.toList)) ≤ 1000000000 then (glossaryref01_Text_l1 x0 k (x3_105 ++ (((([92]) ++ ((Utf8.encode (IntKind.wrap .i32 ((u8 (IntKind.wrap .u8 (48 + ((u8 (IntKind.wrap .u8 (Int.tdiv ((gt x0 x8_105).toNat : Int) 64))).toNat : Int)))).toNat : Int))).data.toList)) ++ ((Utf8.encode (IntKind.wrap .i32 ((u8 (IntKind.wrap .u8 (48 + ((u8 (Int.tmod ((u8 (IntKind.wrap .u8 (Int.tdiv ((gt x0 x8_105).toNat : Int) 8))).toNat : Int) 8)).toNat : Int)))).toNat : Int))).data.toList)) ++ ((Utf8.encode (IntKind.wrap .i32 ((u8 (IntKind.wrap .u8 (48 + ((u8 (Int.tmod ((gt x0 x8_105).toNat : Int) 8)).toNat : Int)))).toNat : Int))).data.toList))) (IntKind.wrap .i64 (x8_105 + 1))) else R.stuck) else R.stuck) else R.stuck) else R.stuck)))))) else R.stuck) else (R.ok x3_105)
def glossaryref01_Text (x0 : List UInt8) : R ((List UInt8)) :=
  (glossaryref01_Text_l1 x0 Many [] 0).bind fun x3p214 => glossaryref01_Text_j0 x3p214
theorem glossaryref01_Text_call {h : H} {x0 : List UInt8} {Q : Out → H → Prop} {KK : ((List UInt8)) → Prop} {X : V → Prop} (hq : (glossaryref01_Text x0).post KK X) (hK : ∀ r, KK r → Q (.ret (.str r)) h) (hX : ∀ v, X v → V.Cl 0 v ∧ Q (.panic v) h) : CA qprim 18 [.sl 1 (List.map byteV x0)] h Q := by
  refine acalln hp Try.func18 rfl (by kernel_rfl) (n := 77) rfl (rs := [.tmp 2]) rfl [0, 2, 3, 5, 6, 7, 8, 9, 33, 46, 51, 56, 61] [] false (by simp) ?_
  unfold glossaryref01_Text at hq
  simp only [initEnv, List.map_cons, List.map_nil, List.getD_cons_zero, List.getD_cons_succ, List.getD_nil, V.demote]
  rw [wp_seq]
  rw [wp_region]
  simp only [RC, RL, RM, ↓evs_eq, unOp, wanted, aop, tkB, neD, Env.get, Env.put, Env.keep, putD, dstOk, ev, constV, nilSlice, V.demote, V.toOwn, V.cells, ty, R1.res, binOp, isShift, binOpT, isC, intOp, strOp, shiftOp, byteV, index, indexAddr, slice, bounds, hiB, loB, withB, maxV, minV, evs, pickV, lenV, builtin, initEnv, convert, K.isU8, strOf, load, store, fieldOf, append, room, fill, placeOf, splice, repl, chunks, Ty.val, Ty.agg, V.plain, H.row, H.ety, AObj.row, Nat.reduceAdd, ↓reduceIte, Nat.reduceEqDiff, Nat.reduceBEq, Nat.reduceBNe, Nat.reduceLT, Int.reduceToNat, Int.reduceEq, Int.reduceLT, Int.reduceLE, reduceCtorEq, Nat.reduceMul, Nat.reduceLeDiff]
  rw [wp_seq]
  rw [wp_region]
  simp only [RC, RL, RM, ↓evs_eq, unOp, wanted, aop, tkB, neD, Env.get, Env.put, Env.keep, putD, dstOk, ev, constV, nilSlice, V.demote, V.toOwn, V.cells, ty, R1.res, binOp, isShift, binOpT, isC, intOp, strOp, shiftOp, byteV, index, indexAddr, slice, bounds, hiB, loB, withB, maxV, minV, evs, pickV, lenV, builtin, initEnv, convert, K.isU8, strOf, load, store, fieldOf, append, room, fill, placeOf, splice, repl, chunks, Ty.val, Ty.agg, V.plain, H.row, H.ety, AObj.row, Nat.reduceAdd, ↓reduceIte, Nat.reduceEqDiff, Nat.reduceBEq, Nat.reduceBNe, Nat.reduceLT, Int.reduceToNat, Int.reduceEq, Int.reduceLT, Int.reduceLE, reduceCtorEq, Nat.reduceMul, Nat.reduceLeDiff]
  refine seq_gen (acall_mono hp) (σ := (List UInt8) × V × V × V × V × V × V × V × V × V × V) (fun s => [(0, .sl 1 (List.map byteV x0)), (2, .str []), (3, .str s.1), (5, s.2.1), (6, s.2.2.1), (7, s.2.2.2.1), (8, s.2.2.2.2.1), (9, s.2.2.2.2.2.1), (33, s.2.2.2.2.2.2.1), (46, s.2.2.2.2.2.2.2.1), (51, s.2.2.2.2.2.2.2.2.1), (56, s.2.2.2.2.2.2.2.2.2.1), (61, s.2.2.2.2.2.2.2.2.2.2)]) (fun s => h) (fun s => (glossaryref01_Text_j0 s.1).post KK X) (fun s hq => ?_) (fun N hN104 => ?_)
  · obtain ⟨x3_99, y5_99, y6_99, y7_99, y8_99, y9_99, y33_99, y46_99, y51_99, y56_99, y61_99⟩ := s
    try dsimp only at hq ⊢
    unfold glossaryref01_Text_j0 at hq
    rw [wp_seq]
    rw [wp_region]
    obtain ⟨g102, hq⟩ := R.guard hq
    obtain ⟨g103, hq⟩ := R.guard hq
    simp only [RC, RL, RM, ↓evs_eq, unOp, wanted, aop, tkB, neD, Env.get, Env.put, Env.keep, putD, dstOk, ev, constV, nilSlice, V.demote, V.toOwn, V.cells, ty, R1.res, binOp, isShift, binOpT, isC, intOp, strOp, shiftOp, byteV, index, indexAddr, slice, bounds, hiB, loB, withB, maxV, minV, evs, pickV, lenV, builtin, initEnv, convert, K.isU8, strOf, load, store, fieldOf, append, room, fill, placeOf, splice, repl, chunks, Ty.val, Ty.agg, V.plain, H.row, H.ety, AObj.row, Nat.reduceAdd, ↓reduceIte, Nat.reduceEqDiff, Nat.reduceBEq, Nat.reduceBNe, Nat.reduceLT, Int.reduceToNat, Int.reduceEq, Int.reduceLT, Int.reduceLE, reduceCtorEq, Nat.reduceMul, Nat.reduceLeDiff]
    repeat (with_reducible refine And.intro (by omega) ?_)
    rw [wp_ret]
    simp only [retQ, results, resultAll, resultOne, Nat.zero_add, RC, RL, RM, ↓evs_eq, unOp, wanted, aop, tkB, neD, Env.get, Env.put, Env.keep, putD, dstOk, ev, constV, nilSlice, V.demote, V.toOwn, V.cells, ty, R1.res, binOp, isShift, binOpT, isC, intOp, strOp, shiftOp, byteV, index, indexAddr, slice, bounds, hiB, loB, withB, maxV, minV, evs, pickV, lenV, builtin, initEnv, convert, K.isU8, strOf, load, store, fieldOf, append, room, fill, placeOf, splice, repl, chunks, Ty.val, Ty.agg, V.plain, H.row, H.ety, AObj.row, Nat.reduceAdd, ↓reduceIte, Nat.reduceEqDiff, Nat.reduceBEq, Nat.reduceBNe, Nat.reduceLT, Int.reduceToNat, Int.reduceEq, Int.reduceLT, Int.reduceLE, reduceCtorEq, Nat.reduceMul, Nat.reduceLeDiff]
    refine ⟨_, (.refl _), ?_⟩
    exact hK _ hq
  · rw [wp_seq]
    rw [wp_region]
    simp only [RC, RL, RM, ↓evs_eq, unOp, wanted, aop, tkB, neD, Env.get, Env.put, Env.keep, putD, dstOk, ev, constV, nilSlice, V.demote, V.toOwn, V.cells, ty, R1.res, binOp, isShift, binOpT, isC, intOp, strOp, shiftOp, byteV, index, indexAddr, slice, bounds, hiB, loB, withB, maxV, minV, evs, pickV, lenV, builtin, initEnv, convert, K.isU8, strOf, load, store, fieldOf, append, room, fill, placeOf, splice, repl, chunks, Ty.val, Ty.agg, V.plain, H.row, H.ety, AObj.row, Nat.reduceAdd, ↓reduceIte, Nat.reduceEqDiff, Nat.reduceBEq, Nat.reduceBNe, Nat.reduceLT, Int.reduceToNat, Int.reduceEq, Int.reduceLT, Int.reduceLE, reduceCtorEq, Nat.reduceMul, Nat.reduceLeDiff]
    rw [wp_block]
    refine loop_in ?_
    refine Wk.same ?_
    obtain ⟨K154, hK155, hq⟩ := R.post_cut hq
    refine loop_gen (acall_mono hp) (σ := (List UInt8) × V × Int × V × V × V × V × V × V) (fun s => [(0, .sl 1 (List.map byteV x0)), (2, .str []), (3, .str s.1), (5, s.2.1), (6, .sl 1 (List.map byteV x0)), (7, .int .i64 (List.length x0 : Int)), (8, .int .i64 s.2.2.1), (9, s.2.2.2.1), (33, s.2.2.2.2.1), (46, s.2.2.2.2.2.1), (51, s.2.2.2.2.2.2.1), (56, s.2.2.2.2.2.2.2.1), (61, s.2.2.2.2.2.2.2.2)]) (fun s => h) (fun k s => (glossaryref01_Text_l1 x0 k s.1 s.2.2.1).post K154 X) (fun s hs => hs) (fun k213 s hq N hN156 => ?_) _ ([], _, 0, _, _, _, _, _, _) hq
    obtain ⟨x3_105, y5_105, x8_105, y9_105, y33_105, y46_105, y51_105, y56_105, y61_105⟩ := s
    try dsimp only at hq ⊢
    rw [glossaryref01_Text_l1] at hq
    rw [wp_seq]
    rw [wp_region]
    simp only [RC, RL, RM, ↓evs_eq, unOp, wanted, aop, tkB, neD, Env.get, Env.put, Env.keep, putD, dstOk, ev, constV, nilSlice, V.demote, V.toOwn, V.cells, ty, R1.res, binOp, isShift, binOpT, isC, intOp, strOp, shiftOp, byteV, index, indexAddr, slice, bounds, hiB, loB, withB, maxV, minV, evs, pickV, lenV, builtin, initEnv, convert, K.isU8, strOf, load, store, fieldOf, append, room, fill, placeOf, splice, repl, chunks, Ty.val, Ty.agg, V.plain, H.row, H.ety, AObj.row, Nat.reduceAdd, ↓reduceIte, Nat.reduceEqDiff, Nat.reduceBEq, Nat.reduceBNe, Nat.reduceLT, Int.reduceToNat, Int.reduceEq, Int.reduceLT, Int.reduceLE, reduceCtorEq, Nat.reduceMul, Nat.reduceLeDiff]
    rw [wp_seq]
    rw [wp_cond]
    simp only [RC, RL, RM, ↓evs_eq, unOp, wanted, aop, tkB, neD, Env.get, Env.put, Env.keep, putD, dstOk, ev, constV, nilSlice, V.demote, V.toOwn, V.cells, ty, R1.res, binOp, isShift, binOpT, isC, intOp, strOp, shiftOp, byteV, index, indexAddr, slice, bounds, hiB, loB, withB, maxV, minV, evs, pickV, lenV, builtin, initEnv, convert, K.isU8, strOf, load, store, fieldOf, append, room, fill, placeOf, splice, repl, chunks, Ty.val, Ty.agg, V.plain, H.row, H.ety, AObj.row, Nat.reduceAdd, ↓reduceIte, Nat.reduceEqDiff, Nat.reduceBEq, Nat.reduceBNe, Nat.reduceLT, Int.reduceToNat, Int.reduceEq, Int.reduceLT, Int.reduceLE, reduceCtorEq, Nat.reduceMul, Nat.reduceLeDiff]
    by_cases hc157 : x8_105 < (List.length x0 : Int)
    · replace hq := (R.post_if hq).1 hc157
      refine condK_t (congrArg V.bool (decide_eq_true hc157)) ?_
      try simp only [wp_skip, RC]
      refine Wk.same ?_
      try simp only [RC]
      rw [wp_seq]
      rw [wp_block]
      rw [wp_seq]
      rw [wp_region]
      obtain ⟨g160, hq⟩ := R.guard hq
      have e161 := map_gt (f := byteV) (l := x0) (i := x8_105) g160
      simp only [e161, RC, RL, RM, ↓evs_eq, unOp, wanted, aop, tkB, neD, Env.get, Env.put, Env.keep, putD, dstOk, ev, constV, nilSlice, V.demote, V.toOwn, V.cells, ty, R1.res, binOp, isShift, binOpT, isC, intOp, strOp, shiftOp, byteV, index, indexAddr, slice, bounds, hiB, loB, withB, maxV, minV, evs, pickV, lenV, builtin, initEnv, convert, K.isU8, strOf, load, store, fieldOf, append, room, fill, placeOf, splice, repl, chunks, Ty.val, Ty.agg, V.plain, H.row, H.ety, AObj.row, Nat.reduceAdd, ↓reduceIte, Nat.reduceEqDiff, Nat.reduceBEq, Nat.reduceBNe, Nat.reduceLT, Int.reduceToNat, Int.reduceEq, Int.reduceLT, Int.reduceLE, reduceCtorEq, Nat.reduceMul, Nat.reduceLeDiff]
      repeat (with_reducible refine And.intro (by omega) ?_)
      rw [wp_block]
      obtain ⟨K164, hK165, hq⟩ := R.post_cut hq
      refine seq_gen (acall_mono hp) (σ := Bool) (fun s => [(0, .sl 1 (List.map byteV x0)), (2, .str []), (3, .str x3_105), (5, .int .u8 ((gt x0 x8_105).toNat : Int)), (6, .sl 1 (List.map byteV x0)), (7, .int .i64 (List.length x0 : Int)), (8, .int .i64 x8_105), (9, .bool (decide (x8_105 < (List.length x0 : Int)))), (33, .bool s), (46, y46_105), (51, y51_105), (56, y56_105), (61, y61_105)]) (fun s => h) (fun s => K164 s) (fun x33m163 hq => ?_) (fun N hN166 => ?_)
      · replace hq := hK165 _ hq
        try dsimp only at hq ⊢
        rw [wp_cond]
        simp only [RC, RL, RM, ↓evs_eq, unOp, wanted, aop, tkB, neD, Env.get, Env.put, Env.keep, putD, dstOk, ev, constV, nilSlice, V.demote, V.toOwn, V.cells, ty, R1.res, binOp, isShift, binOpT, isC, intOp, strOp, shiftOp, byteV, index, indexAddr, slice, bounds, hiB, loB, withB, maxV, minV, evs, pickV, lenV, builtin, initEnv, convert, K.isU8, strOf, load, store, fieldOf, append, room, fill, placeOf, splice, repl, chunks, Ty.val, Ty.agg, V.plain, H.row, H.ety, AObj.row, Nat.reduceAdd, ↓reduceIte, Nat.reduceEqDiff, Nat.reduceBEq, Nat.reduceBNe, Nat.reduceLT, Int.reduceToNat, Int.reduceEq, Int.reduceLT, Int.reduceLE, reduceCtorEq, Nat.reduceMul, Nat.reduceLeDiff]
        by_cases hc168 : x33m163 = true
        · replace hq := (R.post_if hq).1 hc168
          refine condK_t (congrArg V.bool (hc168)) ?_
          rw [wp_region]
          obtain ⟨g171, hq⟩ := R.guard hq
          obtain ⟨g172, hq⟩ := R.guard hq
          simp only [RC, RL, RM, ↓evs_eq, unOp, wanted, aop, tkB, neD, Env.get, Env.put, Env.keep, putD, dstOk, ev, constV, nilSlice, V.demote, V.toOwn, V.cells, ty, R1.res, binOp, isShift, binOpT, isC, intOp, strOp, shiftOp, byteV, index, indexAddr, slice, bounds, hiB, loB, withB, maxV, minV, evs, pickV, lenV, builtin, initEnv, convert, K.isU8, strOf, load, store, fieldOf, append, room, fill, placeOf, splice, repl, chunks, Ty.val, Ty.agg, V.plain, H.row, H.ety, AObj.row, Nat.reduceAdd, ↓reduceIte, Nat.reduceEqDiff, Nat.reduceBEq, Nat.reduceBNe, Nat.reduceLT, Int.reduceToNat, Int.reduceEq, Int.reduceLT, Int.reduceLE, reduceCtorEq, Nat.reduceMul, Nat.reduceLeDiff]
          repeat (with_reducible refine And.intro (by omega) ?_)
          refine Wk.same ?_
          try simp only [RC]
          refine Wk.same ?_
          try simp only [RC]
          refine Wk.same ?_
          try simp only [RC]
          rw [wp_region]
          simp only [RC, RL, RM, ↓evs_eq, unOp, wanted, aop, tkB, neD, Env.get, Env.put, Env.keep, putD, dstOk, ev, constV, nilSlice, V.demote, V.toOwn, V.cells, ty, R1.res, binOp, isShift, binOpT, isC, intOp, strOp, shiftOp, byteV, index, indexAddr, slice, bounds, hiB, loB, withB, maxV, minV, evs, pickV, lenV, builtin, initEnv, convert, K.isU8, strOf, load, store, fieldOf, append, room, fill, placeOf, splice, repl, chunks, Ty.val, Ty.agg, V.plain, H.row, H.ety, AObj.row, Nat.reduceAdd, ↓reduceIte, Nat.reduceEqDiff, Nat.reduceBEq, Nat.reduceBNe, Nat.reduceLT, Int.reduceToNat, Int.reduceEq, Int.reduceLT, Int.reduceLE, reduceCtorEq, Nat.reduceMul, Nat.reduceLeDiff]
          refine Wk.le (EnvLe.cons (.refl _) (EnvLe.cons (.refl _) (EnvLe.cons (.refl _) (EnvLe.cons (.top _) (EnvLe.cons (.refl _) (EnvLe.cons (.refl _) (EnvLe.cons (.refl _) (EnvLe.cons (.top _) (EnvLe.cons (.top _) (EnvLe.cons (.refl _) (EnvLe.cons (.refl _) (EnvLe.cons (.refl _) (EnvLe.cons (.refl _) EnvLe.nil))))))))))))) ?_
          exact hN156 ((x3_105 ++ (([92]) ++ ((Utf8.encode (IntKind.wrap .i32 ((gt x0 x8_105).toNat : Int))).data.toList))), _, (IntKind.wrap .i64 (x8_105 + 1)), _, _, _, _, _, _) hq
        · replace hq := (R.post_if hq).2 hc168
          replace hc168 := eq_false_of_ne_true hc168
          refine condK_f (congrArg V.bool (hc168)) ?_
          rw [wp_seq]
          rw [wp_region]
          simp only [RC, RL, RM, ↓evs_eq, unOp, wanted, aop, tkB, neD, Env.get, Env.put, Env.keep, putD, dstOk, ev, constV, nilSlice, V.demote, V.toOwn, V.cells, ty, R1.res, binOp, isShift, binOpT, isC, intOp, strOp, shiftOp, byteV, index, indexAddr, slice, bounds, hiB, loB, withB, maxV, minV, evs, pickV, lenV, builtin, initEnv, convert, K.isU8, strOf, load, store, fieldOf, append, room, fill, placeOf, splice, repl, chunks, Ty.val, Ty.agg, V.plain, H.row, H.ety, AObj.row, Nat.reduceAdd, ↓reduceIte, Nat.reduceEqDiff, Nat.reduceBEq, Nat.reduceBNe, Nat.reduceLT, Int.reduceToNat, Int.reduceEq, Int.reduceLT, Int.reduceLE, reduceCtorEq, Nat.reduceMul, Nat.reduceLeDiff]
          rw [wp_cond]
          simp only [RC, RL, RM, ↓evs_eq, unOp, wanted, aop, tkB, neD, Env.get, Env.put, Env.keep, putD, dstOk, ev, constV, nilSlice, V.demote, V.toOwn, V.cells, ty, R1.res, binOp, isShift, binOpT, isC, intOp, strOp, shiftOp, byteV, index, indexAddr, slice, bounds, hiB, loB, withB, maxV, minV, evs, pickV, lenV, builtin, initEnv, convert, K.isU8, strOf, load, store, fieldOf, append, room, fill, placeOf, splice, repl, chunks, Ty.val, Ty.agg, V.plain, H.row, H.ety, AObj.row, Nat.reduceAdd, ↓reduceIte, Nat.reduceEqDiff, Nat.reduceBEq, Nat.reduceBNe, Nat.reduceLT, Int.reduceToNat, Int.reduceEq, Int.reduceLT, Int.reduceLE, reduceCtorEq, Nat.reduceMul, Nat.reduceLeDiff]
          by_cases hc173 : ((gt x0 x8_105).toNat : Int) = 9
          · replace hq := (R.post_if hq).1 hc173
            refine condK_t (congrArg V.bool (decide_eq_true hc173)) ?_
            rw [wp_region]
            obtain ⟨g175, hq⟩ := R.guard hq
            simp only [RC, RL, RM, ↓evs_eq, unOp, wanted, aop, tkB, neD, Env.get, Env.put, Env.keep, putD, dstOk, ev, constV, nilSlice, V.demote, V.toOwn, V.cells, ty, R1.res, binOp, isShift, binOpT, isC, intOp, strOp, shiftOp, byteV, index, indexAddr, slice, bounds, hiB, loB, withB, maxV, minV, evs, pickV, lenV, builtin, initEnv, convert, K.isU8, strOf, load, store, fieldOf, append, room, fill, placeOf, splice, repl, chunks, Ty.val, Ty.agg, V.plain, H.row, H.ety, AObj.row, Nat.reduceAdd, ↓reduceIte, Nat.reduceEqDiff, Nat.reduceBEq, Nat.reduceBNe, Nat.reduceLT, Int.reduceToNat, Int.reduceEq, Int.reduceLT, Int.reduceLE, reduceCtorEq, Nat.reduceMul, Nat.reduceLeDiff]
            repeat (with_reducible refine And.intro (by omega) ?_)
            refine Wk.same ?_
            try simp only [RC]
            refine Wk.same ?_
            try simp only [RC]
            refine Wk.same ?_
            try simp only [RC]
            refine Wk.same ?_
            try simp only [RC]
            rw [wp_region]
            simp only [RC, RL, RM, ↓evs_eq, unOp, wanted, aop, tkB, neD, Env.get, Env.put, Env.keep, putD, dstOk, ev, constV, nilSlice, V.demote, V.toOwn, V.cells, ty, R1.res, binOp, isShift, binOpT, isC, intOp, strOp, shiftOp, byteV, index, indexAddr, slice, bounds, hiB, loB, withB, maxV, minV, evs, pickV, lenV, builtin, initEnv, convert, K.isU8, strOf, load, store, fieldOf, append, room, fill, placeOf, splice, repl, chunks, Ty.val, Ty.agg, V.plain, H.row, H.ety, AObj.row, Nat.reduceAdd, ↓reduceIte, Nat.reduceEqDiff, Nat.reduceBEq, Nat.reduceBNe, Nat.reduceLT, Int.reduceToNat, Int.reduceEq, Int.reduceLT, Int.reduceLE, reduceCtorEq, Nat.reduceMul, Nat.reduceLeDiff]
            refine Wk.le (EnvLe.cons (.refl _) (EnvLe.cons (.refl _) (EnvLe.cons (.refl _) (EnvLe.cons (.top _) (EnvLe.cons (.refl _) (EnvLe.cons (.refl _) (EnvLe.cons (.refl _) (EnvLe.cons (.top _) (EnvLe.cons (.top _) (EnvLe.cons (.top _) (EnvLe.cons (.refl _) (EnvLe.cons (.refl _) (EnvLe.cons (.refl _) EnvLe.nil))))))))))))) ?_
            exact hN156 ((x3_105 ++ ([92, 116])), _, (IntKind.wrap .i64 (x8_105 + 1)), _, _, _, _, _, _) hq
          · replace hq := (R.post_if hq).2 hc173
            refine condK_f (congrArg V.bool (decide_eq_false hc173)) ?_
            rw [wp_seq]
            rw [wp_region]
            simp only [RC, RL, RM, ↓evs_eq, unOp, wanted, aop, tkB, neD, Env.get, Env.put, Env.keep, putD, dstOk, ev, constV, nilSlice, V.demote, V.toOwn, V.cells, ty, R1.res, binOp, isShift, binOpT, isC, intOp, strOp, shiftOp, byteV, index, indexAddr, slice, bounds, hiB, loB, withB, maxV, minV, evs, pickV, lenV, builtin, initEnv, convert, K.isU8, strOf, load, store, fieldOf, append, room, fill, placeOf, splice, repl, chunks, Ty.val, Ty.agg, V.plain, H.row, H.ety, AObj.row, Nat.reduceAdd, ↓reduceIte, Nat.reduceEqDiff, Nat.reduceBEq, Nat.reduceBNe, Nat.reduceLT, Int.reduceToNat, Int.reduceEq, Int.reduceLT, Int.reduceLE, reduceCtorEq, Nat.reduceMul, Nat.reduceLeDiff]
            rw [wp_cond]
            simp only [RC, RL, RM, ↓evs_eq, unOp, wanted, aop, tkB, neD, Env.get, Env.put, Env.keep, putD, dstOk, ev, constV, nilSlice, V.demote, V.toOwn, V.cells, ty, R1.res, binOp, isShift, binOpT, isC, intOp, strOp, shiftOp, byteV, index, indexAddr, slice, bounds, hiB, loB, withB, maxV, minV, evs, pickV, lenV, builtin, initEnv, convert, K.isU8, strOf, load, store, fieldOf, append, room, fill, placeOf, splice, repl, chunks, Ty.val, Ty.agg, V.plain, H.row, H.ety, AObj.row, Nat.reduceAdd, ↓reduceIte, Nat.reduceEqDiff, Nat.reduceBEq, Nat.reduceBNe, Nat.reduceLT, Int.reduceToNat, Int.reduceEq, Int.reduceLT, Int.reduceLE, reduceCtorEq, Nat.reduceMul, Nat.reduceLeDiff]
            by_cases hc176 : ((gt x0 x8_105).toNat : Int) = 10
            · replace hq := (R.post_if hq).1 hc176
              refine condK_t (congrArg V.bool (decide_eq_true hc176)) ?_
              rw [wp_region]
              obtain ⟨g178, hq⟩ := R.guard hq
              simp only [RC, RL, RM, ↓evs_eq, unOp, wanted, aop, tkB, neD, Env.get, Env.put, Env.keep, putD, dstOk, ev, constV, nilSlice, V.demote, V.toOwn, V.cells, ty, R1.res, binOp, isShift, binOpT, isC, intOp, strOp, shiftOp, byteV, index, indexAddr, slice, bounds, hiB, loB, withB, maxV, minV, evs, pickV, lenV, builtin, initEnv, convert, K.isU8, strOf, load, store, fieldOf, append, room, fill, placeOf, splice, repl, chunks, Ty.val, Ty.agg, V.plain, H.row, H.ety, AObj.row, Nat.reduceAdd, ↓reduceIte, Nat.reduceEqDiff, Nat.reduceBEq, Nat.reduceBNe, Nat.reduceLT, Int.reduceToNat, Int.reduceEq, Int.reduceLT, Int.reduceLE, reduceCtorEq, Nat.reduceMul, Nat.reduceLeDiff]
              repeat (with_reducible refine And.intro (by omega) ?_)
              refine Wk.same ?_
              try simp only [RC]
              refine Wk.same ?_
              try simp only [RC]
              refine Wk.same ?_
              try simp only [RC]
              refine Wk.same ?_
              try simp only [RC]
              refine Wk.same ?_
              try simp only [RC]
              rw [wp_region]
              simp only [RC, RL, RM, ↓evs_eq, unOp, wanted, aop, tkB, neD, Env.get, Env.put, Env.keep, putD, dstOk, ev, constV, nilSlice, V.demote, V.toOwn, V.cells, ty, R1.res, binOp, isShift, binOpT, isC, intOp, strOp, shiftOp, byteV, index, indexAddr, slice, bounds, hiB, loB, withB, maxV, minV, evs, pickV, lenV, builtin, initEnv, convert, K.isU8, strOf, load, store, fieldOf, append, room, fill, placeOf, splice, repl, chunks, Ty.val, Ty.agg, V.plain, H.row, H.ety, AObj.row, Nat.reduceAdd, ↓reduceIte, Nat.reduceEqDiff, Nat.reduceBEq, Nat.reduceBNe, Nat.reduceLT, Int.reduceToNat, Int.reduceEq, Int.reduceLT, Int.reduceLE, reduceCtorEq, Nat.reduceMul, Nat.reduceLeDiff]
              refine Wk.le (EnvLe.cons (.refl _) (EnvLe.cons (.refl _) (EnvLe.cons (.refl _) (EnvLe.cons (.top _) (EnvLe.cons (.refl _) (EnvLe.cons (.refl _) (EnvLe.cons (.refl _) (EnvLe.cons (.top _) (EnvLe.cons (.top _) (EnvLe.cons (.top _) (EnvLe.cons (.top _) (EnvLe.cons (.refl _) (EnvLe.cons (.refl _) EnvLe.nil))))))))))))) ?_
              exact hN156 ((x3_105 ++ ([92, 110])), _, (IntKind.wrap .i64 (x8_105 + 1)), _, _, _, _, _, _) hq
            · replace hq := (R.post_if hq).2 hc176
              refine condK_f (congrArg V.bool (decide_eq_false hc176)) ?_
              rw [wp_seq]
              rw [wp_region]
              simp only [RC, RL, RM, ↓evs_eq, unOp, wanted, aop, tkB, neD, Env.get, Env.put, Env.keep, putD, dstOk, ev, constV, nilSlice, V.demote, V.toOwn, V.cells, ty, R1.res, binOp, isShift, binOpT, isC, intOp, strOp, shiftOp, byteV, index, indexAddr, slice, bounds, hiB, loB, withB, maxV, minV, evs, pickV, lenV, builtin, initEnv, convert, K.isU8, strOf, load, store, fieldOf, append, room, fill, placeOf, splice, repl, chunks, Ty.val, Ty.agg, V.plain, H.row, H.ety, AObj.row, Nat.reduceAdd, ↓reduceIte, Nat.reduceEqDiff, Nat.reduceBEq, Nat.reduceBNe, Nat.reduceLT, Int.reduceToNat, Int.reduceEq, Int.reduceLT, Int.reduceLE, reduceCtorEq, Nat.reduceMul, Nat.reduceLeDiff]
              rw [wp_cond]
              simp only [RC, RL, RM, ↓evs_eq, unOp, wanted, aop, tkB, neD, Env.get, Env.put, Env.keep, putD, dstOk, ev, constV, nilSlice, V.demote, V.toOwn, V.cells, ty, R1.res, binOp, isShift, binOpT, isC, intOp, strOp, shiftOp, byteV, index, indexAddr, slice, bounds, hiB, loB, withB, maxV, minV, evs, pickV, lenV, builtin, initEnv, convert, K.isU8, strOf, load, store, fieldOf, append, room, fill, placeOf, splice, repl, chunks, Ty.val, Ty.agg, V.plain, H.row, H.ety, AObj.row, Nat.reduceAdd, ↓reduceIte, Nat.reduceEqDiff, Nat.reduceBEq, Nat.reduceBNe, Nat.reduceLT, Int.reduceToNat, Int.reduceEq, Int.reduceLT, Int.reduceLE, reduceCtorEq, Nat.reduceMul, Nat.reduceLeDiff]
              by_cases hc179 : ((gt x0 x8_105).toNat : Int) = 13
              · replace hq := (R.post_if hq).1 hc179
                refine condK_t (congrArg V.bool (decide_eq_true hc179)) ?_
                rw [wp_region]
                obtain ⟨g181, hq⟩ := R.guard hq
                simp only [RC, RL, RM, ↓evs_eq, unOp, wanted, aop, tkB, neD, Env.get, Env.put, Env.keep, putD, dstOk, ev, constV, nilSlice, V.demote, V.toOwn, V.cells, ty, R1.res, binOp, isShift, binOpT, isC, intOp, strOp, shiftOp, byteV, index, indexAddr, slice, bounds, hiB, loB, withB, maxV, minV, evs, pickV, lenV, builtin, initEnv, convert, K.isU8, strOf, load, store, fieldOf, append, room, fill, placeOf, splice, repl, chunks, Ty.val, Ty.agg, V.plain, H.row, H.ety, AObj.row, Nat.reduceAdd, ↓reduceIte, Nat.reduceEqDiff, Nat.reduceBEq, Nat.reduceBNe, Nat.reduceLT, Int.reduceToNat, Int.reduceEq, Int.reduceLT, Int.reduceLE, reduceCtorEq, Nat.reduceMul, Nat.reduceLeDiff]
                repeat (with_reducible refine And.intro (by omega) ?_)
                refine Wk.same ?_
                try simp only [RC]
                refine Wk.same ?_
                try simp only [RC]
                refine Wk.same ?_
                try simp only [RC]
                refine Wk.same ?_
                try simp only [RC]
                refine Wk.same ?_
                try simp only [RC]
                refine Wk.same ?_
                try simp only [RC]
                rw [wp_region]
                simp only [RC, RL, RM, ↓evs_eq, unOp, wanted, aop, tkB, neD, Env.get, Env.put, Env.keep, putD, dstOk, ev, constV, nilSlice, V.demote, V.toOwn, V.cells, ty, R1.res, binOp, isShift, binOpT, isC, intOp, strOp, shiftOp, byteV, index, indexAddr, slice, bounds, hiB, loB, withB, maxV, minV, evs, pickV, lenV, builtin, initEnv, convert, K.isU8, strOf, load, store, fieldOf, append, room, fill, placeOf, splice, repl, chunks, Ty.val, Ty.agg, V.plain, H.row, H.ety, AObj.row, Nat.reduceAdd, ↓reduceIte, Nat.reduceEqDiff, Nat.reduceBEq, Nat.reduceBNe, Nat.reduceLT, Int.reduceToNat, Int.reduceEq, Int.reduceLT, Int.reduceLE, reduceCtorEq, Nat.reduceMul, Nat.reduceLeDiff]
                refine Wk.le (EnvLe.cons (.refl _) (EnvLe.cons (.refl _) (EnvLe.cons (.refl _) (EnvLe.cons (.top _) (EnvLe.cons (.refl _) (EnvLe.cons (.refl _) (EnvLe.cons (.refl _) (EnvLe.cons (.top _) (EnvLe.cons (.top _) (EnvLe.cons (.top _) (EnvLe.cons (.top _) (EnvLe.cons (.top _) (EnvLe.cons (.refl _) EnvLe.nil))))))))))))) ?_
                exact hN156 ((x3_105 ++ ([92, 114])), _, (IntKind.wrap .i64 (x8_105 + 1)), _, _, _, _, _, _) hq
              · replace hq := (R.post_if hq).2 hc179
                refine condK_f (congrArg V.bool (decide_eq_false hc179)) ?_
                obtain ⟨K184, hK185, hq⟩ := R.post_cut hq
                refine seq_gen (acall_mono hp) (σ := Bool) (fun s => [(0, .sl 1 (List.map byteV x0)), (2, .str []), (3, .str x3_105), (5, .int .u8 ((gt x0 x8_105).toNat : Int)), (6, .sl 1 (List.map byteV x0)), (7, .int .i64 (List.length x0 : Int)), (8, .int .i64 x8_105), (9, .bool (decide (x8_105 < (List.length x0 : Int)))), (33, .bool x33m163), (46, .bool (decide (((gt x0 x8_105).toNat : Int) = 9))), (51, .bool (decide (((gt x0 x8_105).toNat : Int) = 10))), (56, .bool (decide (((gt x0 x8_105).toNat : Int) = 13))), (61, .bool s)]) (fun s => h) (fun s => K184 s) (fun x61m183 hq => ?_) (fun N hN186 => ?_)
                · replace hq := hK185 _ hq
                  try dsimp only at hq ⊢
                  rw [wp_cond]
                  simp only [RC, RL, RM, ↓evs_eq, unOp, wanted, aop, tkB, neD, Env.get, Env.put, Env.keep, putD, dstOk, ev, constV, nilSlice, V.demote, V.toOwn, V.cells, ty, R1.res, binOp, isShift, binOpT, isC, intOp, strOp, shiftOp, byteV, index, indexAddr, slice, bounds, hiB, loB, withB, maxV, minV, evs, pickV, lenV, builtin, initEnv, convert, K.isU8, strOf, load, store, fieldOf, append, room, fill, placeOf, splice, repl, chunks, Ty.val, Ty.agg, V.plain, H.row, H.ety, AObj.row, Nat.reduceAdd, ↓reduceIte, Nat.reduceEqDiff, Nat.reduceBEq, Nat.reduceBNe, Nat.reduceLT, Int.reduceToNat, Int.reduceEq, Int.reduceLT, Int.reduceLE, reduceCtorEq, Nat.reduceMul, Nat.reduceLeDiff]
                  by_cases hc188 : x61m183 = true
                  · replace hq := (R.post_if hq).1 hc188
                    refine condK_t (congrArg V.bool (hc188)) ?_
                    rw [wp_region]
                    obtain ⟨g190, hq⟩ := R.guard hq
                    simp only [RC, RL, RM, ↓evs_eq, unOp, wanted, aop, tkB, neD, Env.get, Env.put, Env.keep, putD, dstOk, ev, constV, nilSlice, V.demote, V.toOwn, V.cells, ty, R1.res, binOp, isShift, binOpT, isC, intOp, strOp, shiftOp, byteV, index, indexAddr, slice, bounds, hiB, loB, withB, maxV, minV, evs, pickV, lenV, builtin, initEnv, convert, K.isU8, strOf, load, store, fieldOf, append, room, fill, placeOf, splice, repl, chunks, Ty.val, Ty.agg, V.plain, H.row, H.ety, AObj.row, Nat.reduceAdd, ↓reduceIte, Nat.reduceEqDiff, Nat.reduceBEq, Nat.reduceBNe, Nat.reduceLT, Int.reduceToNat, Int.reduceEq, Int.reduceLT, Int.reduceLE, reduceCtorEq, Nat.reduceMul, Nat.reduceLeDiff]
                    repeat (with_reducible refine And.intro (by omega) ?_)
                    refine Wk.same ?_
                    try simp only [RC]
                    refine Wk.same ?_
                    try simp only [RC]
                    refine Wk.same ?_
                    try simp only [RC]
                    refine Wk.same ?_
                    try simp only [RC]
                    refine Wk.same ?_
                    try simp only [RC]
                    refine Wk.same ?_
                    try simp only [RC]
                    refine Wk.same ?_
                    try simp only [RC]
                    rw [wp_region]
                    simp only [RC, RL, RM, ↓evs_eq, unOp, wanted, aop, tkB, neD, Env.get, Env.put, Env.keep, putD, dstOk, ev, constV, nilSlice, V.demote, V.toOwn, V.cells, ty, R1.res, binOp, isShift, binOpT, isC, intOp, strOp, shiftOp, byteV, index, indexAddr, slice, bounds, hiB, loB, withB, maxV, minV, evs, pickV, lenV, builtin, initEnv, convert, K.isU8, strOf, load, store, fieldOf, append, room, fill, placeOf, splice, repl, chunks, Ty.val, Ty.agg, V.plain, H.row, H.ety, AObj.row, Nat.reduceAdd, ↓reduceIte, Nat.reduceEqDiff, Nat.reduceBEq, Nat.reduceBNe, Nat.reduceLT, Int.reduceToNat, Int.reduceEq, Int.reduceLT, Int.reduceLE, reduceCtorEq, Nat.reduceMul, Nat.reduceLeDiff]
                    refine Wk.le (EnvLe.cons (.refl _) (EnvLe.cons (.refl _) (EnvLe.cons (.refl _) (EnvLe.cons (.top _) (EnvLe.cons (.refl _) (EnvLe.cons (.refl _) (EnvLe.cons (.refl _) (EnvLe.cons (.top _) (EnvLe.cons (.top _) (EnvLe.cons (.top _) (EnvLe.cons (.top _) (EnvLe.cons (.top _) (EnvLe.cons (.top _) EnvLe.nil))))))))))))) ?_
                    exact hN156 ((x3_105 ++ ((Utf8.encode (IntKind.wrap .i32 ((gt x0 x8_105).toNat : Int))).data.toList)), _, (IntKind.wrap .i64 (x8_105 + 1)), _, _, _, _, _, _) hq
                  · replace hq := (R.post_if hq).2 hc188
                    replace hc188 := eq_false_of_ne_true hc188
                    refine condK_f (congrArg V.bool (hc188)) ?_
                    rw [wp_region]
                    obtain ⟨g204, hq⟩ := R.guard hq
                    obtain ⟨g208, hq⟩ := R.guard hq
                    obtain ⟨g211, hq⟩ := R.guard hq
                    obtain ⟨g212, hq⟩ := R.guard hq
                    have e202 := u8_fix (n := (IntKind.wrap .u8 (Int.tdiv ((gt x0 x8_105).toNat : Int) 64))) (wrap_u8 _)
                    have e203 := u8_fix (n := (IntKind.wrap .u8 (48 + ((u8 (IntKind.wrap .u8 (Int.tdiv ((gt x0 x8_105).toNat : Int) 64))).toNat : Int)))) (wrap_u8 _)
                    have e205 := u8_fix (n := (IntKind.wrap .u8 (Int.tdiv ((gt x0 x8_105).toNat : Int) 8))) (wrap_u8 _)
                    have e206 := u8_fix (n := (Int.tmod ((u8 (IntKind.wrap .u8 (Int.tdiv ((gt x0 x8_105).toNat : Int) 8))).toNat : Int) 8)) (tmod_u8 _ _)
                    have e207 := u8_fix (n := (IntKind.wrap .u8 (48 + ((u8 (Int.tmod ((u8 (IntKind.wrap .u8 (Int.tdiv ((gt x0 x8_105).toNat : Int) 8))).toNat : Int) 8)).toNat : Int)))) (wrap_u8 _)
                    have e209 := u8_fix (n := (Int.tmod ((gt x0 x8_105).toNat : Int) 8)) (tmod_u8 _ _)
                    have e210 := u8_fix (n := (IntKind.wrap .u8 (48 + ((u8 (Int.tmod ((gt x0 x8_105).toNat : Int) 8)).toNat : Int)))) (wrap_u8 _)
                    simp only [e202, e203, e205, e206, e207, e209, e210, RC, RL, RM, ↓evs_eq, unOp, wanted, aop, tkB, neD, Env.get, Env.put, Env.keep, putD, dstOk, ev, constV, nilSlice, V.demote, V.toOwn, V.cells, ty, R1.res, binOp, isShift, binOpT, isC, intOp, strOp, shiftOp, byteV, index, indexAddr, slice, bounds, hiB, loB, withB, maxV, minV, evs, pickV, lenV, builtin, initEnv, convert, K.isU8, strOf, load, store, fieldOf, append, room, fill, placeOf, splice, repl, chunks, Ty.val, Ty.agg, V.plain, H.row, H.ety, AObj.row, Nat.reduceAdd, ↓reduceIte, Nat.reduceEqDiff, Nat.reduceBEq, Nat.reduceBNe, Nat.reduceLT, Int.reduceToNat, Int.reduceEq, Int.reduceLT, Int.reduceLE, reduceCtorEq, Nat.reduceMul, Nat.reduceLeDiff]
                    repeat (with_reducible refine And.intro (by omega) ?_)
                    refine Wk.same ?_
                    try simp only [RC]
                    refine Wk.same ?_
                    try simp only [RC]
                    refine Wk.same ?_
                    try simp only [RC]
                    refine Wk.same ?_
                    try simp only [RC]
                    refine Wk.same ?_
                    try simp only [RC]
                    refine Wk.same ?_
                    try simp only [RC]
                    refine Wk.same ?_
                    try simp only [RC]
                    rw [wp_region]
                    simp only [RC, RL, RM, ↓evs_eq, unOp, wanted, aop, tkB, neD, Env.get, Env.put, Env.keep, putD, dstOk, ev, constV, nilSlice, V.demote, V.toOwn, V.cells, ty, R1.res, binOp, isShift, binOpT, isC, intOp, strOp, shiftOp, byteV, index, indexAddr, slice, bounds, hiB, loB, withB, maxV, minV, evs, pickV, lenV, builtin, initEnv, convert, K.isU8, strOf, load, store, fieldOf, append, room, fill, placeOf, splice, repl, chunks, Ty.val, Ty.agg, V.plain, H.row, H.ety, AObj.row, Nat.reduceAdd, ↓reduceIte, Nat.reduceEqDiff, Nat.reduceBEq, Nat.reduceBNe, Nat.reduceLT, Int.reduceToNat, Int.reduceEq, Int.reduceLT, Int.reduceLE, reduceCtorEq, Nat.reduceMul, Nat.reduceLeDiff]
                    refine Wk.le (EnvLe.cons (.refl _) (EnvLe.cons (.refl _) (EnvLe.cons (.refl _) (EnvLe.cons (.top _) (EnvLe.cons (.refl _) (EnvLe.cons (.refl _) (EnvLe.cons (.refl _) (EnvLe.cons (.top _) (EnvLe.cons (.top _) (EnvLe.cons (.top _) (EnvLe.cons (.top _) (EnvLe.cons (.top _) (EnvLe.cons (.top _) EnvLe.nil))))))))))))) ?_
                    exact hN156 ((x3_105 ++ (((([92]) ++ ((Utf8.encode (IntKind.wrap .i32 ((u8 (IntKind.wrap .u8 (48 + ((u8 (IntKind.wrap .u8 (Int.tdiv ((gt x0 x8_105).toNat : Int) 64))).toNat : Int)))).toNat : Int))).data.toList)) ++ ((Utf8.encode (IntKind.wrap .i32 ((u8 (IntKind.wrap .u8 (48 + ((u8 (Int.tmod ((u8 (IntKind.wrap .u8 (Int.tdiv ((gt x0 x8_105).toNat : Int) 8))).toNat : Int) 8)).toNat : Int)))).toNat : Int))).data.toList)) ++ ((Utf8.encode (IntKind.wrap .i32 ((u8 (IntKind.wrap .u8 (48 + ((u8 (Int.tmod ((gt x0 x8_105).toNat : Int) 8)).toNat : Int)))).toNat : Int))).data.toList))), _, (IntKind.wrap .i64 (x8_105 + 1)), _, _, _, _, _, _) hq
                · rw [wp_region]
                  simp only [RC, RL, RM, ↓evs_eq, unOp, wanted, aop, tkB, neD, Env.get, Env.put, Env.keep, putD, dstOk, ev, constV, nilSlice, V.demote, V.toOwn, V.cells, ty, R1.res, binOp, isShift, binOpT, isC, intOp, strOp, shiftOp, byteV, index, indexAddr, slice, bounds, hiB, loB, withB, maxV, minV, evs, pickV, lenV, builtin, initEnv, convert, K.isU8, strOf, load, store, fieldOf, append, room, fill, placeOf, splice, repl, chunks, Ty.val, Ty.agg, V.plain, H.row, H.ety, AObj.row, Nat.reduceAdd, ↓reduceIte, Nat.reduceEqDiff, Nat.reduceBEq, Nat.reduceBNe, Nat.reduceLT, Int.reduceToNat, Int.reduceEq, Int.reduceLT, Int.reduceLE, reduceCtorEq, Nat.reduceMul, Nat.reduceLeDiff]
                  by_cases hc187 : (32 : Int) ≤ ((gt x0 x8_105).toNat : Int)
                  · replace hq := (R.post_if hq).1 hc187
                    simp only [decide_eq_true hc187, RC, RL, RM, ↓evs_eq, unOp, wanted, aop, tkB, neD, Env.get, Env.put, Env.keep, putD, dstOk, ev, constV, nilSlice, V.demote, V.toOwn, V.cells, ty, R1.res, binOp, isShift, binOpT, isC, intOp, strOp, shiftOp, byteV, index, indexAddr, slice, bounds, hiB, loB, withB, maxV, minV, evs, pickV, lenV, builtin, initEnv, convert, K.isU8, strOf, load, store, fieldOf, append, room, fill, placeOf, splice, repl, chunks, Ty.val, Ty.agg, V.plain, H.row, H.ety, AObj.row, Nat.reduceAdd, ↓reduceIte, Nat.reduceEqDiff, Nat.reduceBEq, Nat.reduceBNe, Nat.reduceLT, Int.reduceToNat, Int.reduceEq, Int.reduceLT, Int.reduceLE, reduceCtorEq, Nat.reduceMul, Nat.reduceLeDiff]
                    exact hN186 (decide (((gt x0 x8_105).toNat : Int) ≤ 126)) hq
                  · replace hq := (R.post_if hq).2 hc187
                    simp only [decide_eq_false hc187, RC, RL, RM, ↓evs_eq, unOp, wanted, aop, tkB, neD, Env.get, Env.put, Env.keep, putD, dstOk, ev, constV, nilSlice, V.demote, V.toOwn, V.cells, ty, R1.res, binOp, isShift, binOpT, isC, intOp, strOp, shiftOp, byteV, index, indexAddr, slice, bounds, hiB, loB, withB, maxV, minV, evs, pickV, lenV, builtin, initEnv, convert, K.isU8, strOf, load, store, fieldOf, append, room, fill, placeOf, splice, repl, chunks, Ty.val, Ty.agg, V.plain, H.row, H.ety, AObj.row, Nat.reduceAdd, ↓reduceIte, Nat.reduceEqDiff, Nat.reduceBEq, Nat.reduceBNe, Nat.reduceLT, Int.reduceToNat, Int.reduceEq, Int.reduceLT, Int.reduceLE, reduceCtorEq, Nat.reduceMul, Nat.reduceLeDiff]
                    exact hN186 false hq
      · rw [wp_region]
        simp only [RC, RL, RM, ↓evs_eq, unOp, wanted, aop, tkB, neD, Env.get, Env.put, Env.keep, putD, dstOk, ev, constV, nilSlice, V.demote, V.toOwn, V.cells, ty, R1.res, binOp, isShift, binOpT, isC, intOp, strOp, shiftOp, byteV, index, indexAddr, slice, bounds, hiB, loB, withB, maxV, minV, evs, pickV, lenV, builtin, initEnv, convert, K.isU8, strOf, load, store, fieldOf, append, room, fill, placeOf, splice, repl, chunks, Ty.val, Ty.agg, V.plain, H.row, H.ety, AObj.row, Nat.reduceAdd, ↓reduceIte, Nat.reduceEqDiff, Nat.reduceBEq, Nat.reduceBNe, Nat.reduceLT, Int.reduceToNat, Int.reduceEq, Int.reduceLT, Int.reduceLE, reduceCtorEq, Nat.reduceMul, Nat.reduceLeDiff]
        by_cases hc167 : ((gt x0 x8_105).toNat : Int) = 34
        · replace hq := (R.post_if hq).1 hc167
          simp only [decide_eq_true hc167, RC, RL, RM, ↓evs_eq, unOp, wanted, aop, tkB, neD, Env.get, Env.put, Env.keep, putD, dstOk, ev, constV, nilSlice, V.demote, V.toOwn, V.cells, ty, R1.res, binOp, isShift, binOpT, isC, intOp, strOp, shiftOp, byteV, index, indexAddr, slice, bounds, hiB, loB, withB, maxV, minV, evs, pickV, lenV, builtin, initEnv, convert, K.isU8, strOf, load, store, fieldOf, append, room, fill, placeOf, splice, repl, chunks, Ty.val, Ty.agg, V.plain, H.row, H.ety, AObj.row, Nat.reduceAdd, ↓reduceIte, Nat.reduceEqDiff, Nat.reduceBEq, Nat.reduceBNe, Nat.reduceLT, Int.reduceToNat, Int.reduceEq, Int.reduceLT, Int.reduceLE, reduceCtorEq, Nat.reduceMul, Nat.reduceLeDiff]
          exact hN166 true hq
        · replace hq := (R.post_if hq).2 hc167
          simp only [decide_eq_false hc167, RC, RL, RM, ↓evs_eq, unOp, wanted, aop, tkB, neD, Env.get, Env.put, Env.keep, putD, dstOk, ev, constV, nilSlice, V.demote, V.toOwn, V.cells, ty, R1.res, binOp, isShift, binOpT, isC, intOp, strOp, shiftOp, byteV, index, indexAddr, slice, bounds, hiB, loB, withB, maxV, minV, evs, pickV, lenV, builtin, initEnv, convert, K.isU8, strOf, load, store, fieldOf, append, room, fill, placeOf, splice, repl, chunks, Ty.val, Ty.agg, V.plain, H.row, H.ety, AObj.row, Nat.reduceAdd, ↓reduceIte, Nat.reduceEqDiff, Nat.reduceBEq, Nat.reduceBNe, Nat.reduceLT, Int.reduceToNat, Int.reduceEq, Int.reduceLT, Int.reduceLE, reduceCtorEq, Nat.reduceMul, Nat.reduceLeDiff]
          exact hN166 (decide (((gt x0 x8_105).toNat : Int) = 92)) hq
    · replace hq := (R.post_if hq).2 hc157
      refine condK_f (congrArg V.bool (decide_eq_false hc157)) ?_
      rw [wp_exit]
      try simp only [↓reduceIte, Nat.reduceEqDiff, reduceCtorEq, if_false, if_true, eq_self, Nat.succ_ne_self, RC]
      replace hq := hK155 _ hq
      try dsimp only at hq
      refine Wk.le (EnvLe.cons (.refl _) (EnvLe.cons (.refl _) (EnvLe.cons (.refl _) (EnvLe.cons (.refl _) (EnvLe.cons (.top _) (EnvLe.cons (.top _) (EnvLe.cons (.top _) (EnvLe.cons (.top _) (EnvLe.cons (.refl _) (EnvLe.cons (.refl _) (EnvLe.cons (.refl _) (EnvLe.cons (.refl _) (EnvLe.cons (.refl _) EnvLe.nil))))))))))))) ?_
      try simp only [RC]
      exact hN104 (x3_105, _, _, _, _, _, _, _, _, _, _) hq
end Go.Proofs.Ytgbgnglngpbehaa.Pv
