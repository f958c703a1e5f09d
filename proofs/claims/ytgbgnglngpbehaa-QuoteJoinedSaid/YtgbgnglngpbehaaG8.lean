/- Functions of the program, as plain Lean functions, and that the code comes to them: printed by gen.py. -/
import Derived.Test.YtgbgnglngpbehaaG7
set_option linter.unusedVariables false
set_option linter.unusedSimpArgs false
set_option maxHeartbeats 4000000
set_option maxRecDepth 10000
namespace Go.Proofs.Ytgbgnglngpbehaa.Pv
open Go Go.Proofs

def glossaryref01_Number_j0 (x5_17 : List UInt8) (x6_51 : Int) : R (Int × Bool) :=
  R.ok (x6_51, (!(decide (x5_17 = []))))
def glossaryref01_Number_l1 (x4_17 : Int) (x5_17 : List UInt8) : Nat → Int → Int → R ((Int) ⊕ (Int × Bool))
  | 0, _, _ => R.stuck
  | k + 1, x6_53, x7_53 => if x7_53 < (List.length x5_17 : Int) then (if 0 ≤ x7_53 ∧ x7_53 < (List.length x5_17 : Int) then ((glossaryref01_digit (List.getD x5_17 (Int.toNat x7_53) 0)).bind fun r76 => (if x4_17 ≤ (IntKind.wrap .u64 r76) then (R.ok true) else (if ¬ x4_17 = 0 then (R.ok (decide ((IntKind.wrap .u64 (Int.tdiv (IntKind.wrap .u64 (18446744073709551615 - (IntKind.wrap .u64 r76))) x4_17)) < x6_53))) else R.stuck)).bind fun x63m79 => if x63m79 = true then (R.ok (.inr (0, false))) else (glossaryref01_Number_l1 x4_17 x5_17 k (IntKind.wrap .u64 ((IntKind.wrap .u64 (x6_53 * x4_17)) + (IntKind.wrap .u64 r76))) (IntKind.wrap .i64 (x7_53 + 1)))) else R.stuck) else (R.ok (.inl x6_53))
def glossaryref01_Number_j2 (x4_17 : Int) (x5_17 : List UInt8) : R (Int × Bool) :=
  (glossaryref01_Number_l1 x4_17 x5_17 Many 0 0).bind fun | (.inl x6p89) => glossaryref01_Number_j0 x5_17 x6p89 | (.inr rp90) => R.ok rp90
def glossaryref01_Number (x0 : List UInt8) : R (Int × Bool) :=
  (if (2 : Int) < (List.length x0 : Int) then (if 0 ≤ 0 ∧ 0 < (List.length x0 : Int) then (if ((List.getD x0 0 0).toNat : Int) = 48 then (if 0 ≤ 1 ∧ 1 < (List.length x0 : Int) then (if ((List.getD x0 1 0).toNat : Int) = 120 then (R.ok true) else (if 0 ≤ 1 ∧ 1 < (List.length x0 : Int) then (R.ok (decide (((List.getD x0 1 0).toNat : Int) = 88))) else R.stuck)) else R.stuck) else (R.ok false)) else R.stuck) else (R.ok false)).bind fun x10m98 => if x10m98 = true then (if 0 ≤ 2 ∧ 2 ≤ (List.length x0 : Int) then (glossaryref01_Number_j2 16 (List.drop 2 x0)) else R.stuck) else ((if (1 : Int) < (List.length x0 : Int) then (if 0 ≤ 0 ∧ 0 < (List.length x0 : Int) then (R.ok (decide (((List.getD x0 0 0).toNat : Int) = 48))) else R.stuck) else (R.ok false)).bind fun x31m113 => if x31m113 = true then (if 0 ≤ 1 ∧ 1 ≤ (List.length x0 : Int) then (glossaryref01_Number_j2 8 (List.drop 1 x0)) else R.stuck) else (glossaryref01_Number_j2 10 x0))
theorem glossaryref01_Number_call {h : H} {x0 : List UInt8} {Q : Out → H → Prop} {KK : (Int × Bool) → Prop} {X : V → Prop} (hq : (glossaryref01_Number x0).post KK X) (hK : ∀ r, KK r → Q (.ret (.tup [.int .u64 r.1, .bool r.2])) h) (hX : ∀ v, X v → V.Cl 0 v ∧ Q (.panic v) h) : CA qprim 14 [.str x0] h Q := by
  refine acalln hp Try.func14 rfl (by kernel_rfl) (n := 72) rfl (rs := [.tmp 2, .tmp 3]) rfl [0, 2, 3, 4, 5, 6, 7, 8, 10, 31, 45, 63] [] false (by simp) ?_
  unfold glossaryref01_Number at hq
  simp only [initEnv, List.map_cons, List.map_nil, List.getD_cons_zero, List.getD_cons_succ, List.getD_nil, V.demote]
  rw [wp_seq]
  rw [wp_region]
  simp only [RC, RL, RM, ↓evs_eq, unOp, wanted, aop, tkB, neD, Env.get, Env.put, Env.keep, putD, dstOk, ev, constV, nilSlice, V.demote, V.toOwn, V.cells, ty, R1.res, binOp, isShift, binOpT, isC, intOp, strOp, shiftOp, byteV, index, indexAddr, slice, bounds, hiB, loB, withB, maxV, minV, evs, pickV, lenV, builtin, initEnv, convert, K.isU8, strOf, load, store, fieldOf, append, room, fill, placeOf, splice, repl, chunks, Ty.val, Ty.agg, V.plain, H.row, H.ety, AObj.row, Nat.reduceAdd, ↓reduceIte, Nat.reduceEqDiff, Nat.reduceBEq, Nat.reduceBNe, Nat.reduceLT, Int.reduceToNat, Int.reduceEq, Int.reduceLT, Int.reduceLE, reduceCtorEq, Nat.reduceMul, Nat.reduceLeDiff]
  rw [wp_seq]
  rw [wp_region]
  simp only [RC, RL, RM, ↓evs_eq, unOp, wanted, aop, tkB, neD, Env.get, Env.put, Env.keep, putD, dstOk, ev, constV, nilSlice, V.demote, V.toOwn, V.cells, ty, R1.res, binOp, isShift, binOpT, isC, intOp, strOp, shiftOp, byteV, index, indexAddr, slice, bounds, hiB, loB, withB, maxV, minV, evs, pickV, lenV, builtin, initEnv, convert, K.isU8, strOf, load, store, fieldOf, append, room, fill, placeOf, splice, repl, chunks, Ty.val, Ty.agg, V.plain, H.row, H.ety, AObj.row, Nat.reduceAdd, ↓reduceIte, Nat.reduceEqDiff, Nat.reduceBEq, Nat.reduceBNe, Nat.reduceLT, Int.reduceToNat, Int.reduceEq, Int.reduceLT, Int.reduceLE, reduceCtorEq, Nat.reduceMul, Nat.reduceLeDiff]
  refine seq_gen (acall_mono hp) (σ := Int × (List UInt8) × V × V) (fun s => [(0, .str x0), (2, .int .u64 0), (3, .bool false), (4, .int .u64 s.1), (5, .str s.2.1), (6, .top), (7, .top), (8, .top), (10, s.2.2.1), (31, s.2.2.2), (45, .top), (63, .top)]) (fun s => h) (fun s => (glossaryref01_Number_j2 s.1 s.2.1).post KK X) (fun s hq => ?_) (fun N hN91 => ?_)
  · obtain ⟨x4_17, x5_17, y10_17, y31_17⟩ := s
    try dsimp only at hq ⊢
    unfold glossaryref01_Number_j2 at hq
    rw [wp_seq]
    rw [wp_region]
    simp only [RC, RL, RM, ↓evs_eq, unOp, wanted, aop, tkB, neD, Env.get, Env.put, Env.keep, putD, dstOk, ev, constV, nilSlice, V.demote, V.toOwn, V.cells, ty, R1.res, binOp, isShift, binOpT, isC, intOp, strOp, shiftOp, byteV, index, indexAddr, slice, bounds, hiB, loB, withB, maxV, minV, evs, pickV, lenV, builtin, initEnv, convert, K.isU8, strOf, load, store, fieldOf, append, room, fill, placeOf, splice, repl, chunks, Ty.val, Ty.agg, V.plain, H.row, H.ety, AObj.row, Nat.reduceAdd, ↓reduceIte, Nat.reduceEqDiff, Nat.reduceBEq, Nat.reduceBNe, Nat.reduceLT, Int.reduceToNat, Int.reduceEq, Int.reduceLT, Int.reduceLE, reduceCtorEq, Nat.reduceMul, Nat.reduceLeDiff]
    refine seq_gen (acall_mono hp) (σ := V × V × Int × V × V × V × V × V × V) (fun s => [(0, .str x0), (2, s.1), (3, s.2.1), (4, .int .u64 x4_17), (5, .str x5_17), (6, .int .u64 s.2.2.1), (7, s.2.2.2.1), (8, s.2.2.2.2.1), (10, s.2.2.2.2.2.1), (31, s.2.2.2.2.2.2.1), (45, s.2.2.2.2.2.2.2.1), (63, s.2.2.2.2.2.2.2.2)]) (fun s => h) (fun s => (glossaryref01_Number_j0 x5_17 s.2.2.1).post KK X) (fun s hq => ?_) (fun N hN52 => ?_)
    · obtain ⟨y2_51, y3_51, x6_51, y7_51, y8_51, y10_51, y31_51, y45_51, y63_51⟩ := s
      try dsimp only at hq ⊢
      unfold glossaryref01_Number_j0 at hq
      rw [wp_seq]
      rw [wp_region]
      simp only [RC, RL, RM, ↓evs_eq, unOp, wanted, aop, tkB, neD, Env.get, Env.put, Env.keep, putD, dstOk, ev, constV, nilSlice, V.demote, V.toOwn, V.cells, ty, R1.res, binOp, isShift, binOpT, isC, intOp, strOp, shiftOp, byteV, index, indexAddr, slice, bounds, hiB, loB, withB, maxV, minV, evs, pickV, lenV, builtin, initEnv, convert, K.isU8, strOf, load, store, fieldOf, append, room, fill, placeOf, splice, repl, chunks, Ty.val, Ty.agg, V.plain, H.row, H.ety, AObj.row, Nat.reduceAdd, ↓reduceIte, Nat.reduceEqDiff, Nat.reduceBEq, Nat.reduceBNe, Nat.reduceLT, Int.reduceToNat, Int.reduceEq, Int.reduceLT, Int.reduceLE, reduceCtorEq, Nat.reduceMul, Nat.reduceLeDiff]
      rw [wp_ret]
      simp only [retQ, results, resultAll, resultOne, Nat.zero_add, RC, RL, RM, ↓evs_eq, unOp, wanted, aop, tkB, neD, Env.get, Env.put, Env.keep, putD, dstOk, ev, constV, nilSlice, V.demote, V.toOwn, V.cells, ty, R1.res, binOp, isShift, binOpT, isC, intOp, strOp, shiftOp, byteV, index, indexAddr, slice, bounds, hiB, loB, withB, maxV, minV, evs, pickV, lenV, builtin, initEnv, convert, K.isU8, strOf, load, store, fieldOf, append, room, fill, placeOf, splice, repl, chunks, Ty.val, Ty.agg, V.plain, H.row, H.ety, AObj.row, Nat.reduceAdd, ↓reduceIte, Nat.reduceEqDiff, Nat.reduceBEq, Nat.reduceBNe, Nat.reduceLT, Int.reduceToNat, Int.reduceEq, Int.reduceLT, Int.reduceLE, reduceCtorEq, Nat.reduceMul, Nat.reduceLeDiff]
      refine ⟨_, (.refl _), ?_⟩
      exact hK _ hq
    · rw [wp_seq]
      rw [wp_region]
      simp only [RC, RL, RM, ↓evs_eq, unOp, wanted, aop, tkB, neD, Env.get, Env.put, Env.keep, putD, dstOk, ev, constV, nilSlice, V.demote, V.toOwn, V.cells, ty, R1.res, binOp, isShift, binOpT, isC, intOp, strOp, shiftOp, byteV, index, indexAddr, slice, bounds, hiB, loB, withB, maxV, minV, evs, pickV, lenV, builtin, initEnv, convert, K.isU8, strOf, load, store, fieldOf, append, room, fill, placeOf, splice, repl, chunks, Ty.val, Ty.agg, V.plain, H.row, H.ety, AObj.row, Nat.reduceAdd, ↓reduceIte, Nat.reduceEqDiff, Nat.reduceBEq, Nat.reduceBNe, Nat.reduceLT, Int.reduceToNat, Int.reduceEq, Int.reduceLT, Int.reduceLE, reduceCtorEq, Nat.reduceMul, Nat.reduceLeDiff]
      rw [wp_block]
      refine loop_in ?_
      refine Wk.le (EnvLe.cons (.refl _) (EnvLe.cons (.top _) (EnvLe.cons (.top _) (EnvLe.cons (.refl _) (EnvLe.cons (.refl _) (EnvLe.cons (.refl _) (EnvLe.cons (.refl _) (EnvLe.cons (.refl _) (EnvLe.cons (.refl _) (EnvLe.cons (.refl _) (EnvLe.cons (.refl _) (EnvLe.cons (.refl _) EnvLe.nil)))))))))))) ?_
      obtain ⟨K67, hK68, hq⟩ := R.post_cut hq
      refine loop_gen (acall_mono hp) (σ := V × V × Int × Int × V × V × V) (fun s => [(0, .str x0), (2, s.1), (3, s.2.1), (4, .int .u64 x4_17), (5, .str x5_17), (6, .int .u64 s.2.2.1), (7, .int .i64 s.2.2.2.1), (8, s.2.2.2.2.1), (10, y10_17), (31, y31_17), (45, s.2.2.2.2.2.1), (63, s.2.2.2.2.2.2)]) (fun s => h) (fun k s => (glossaryref01_Number_l1 x4_17 x5_17 k s.2.2.1 s.2.2.2.1).post K67 X) (fun s hs => hs) (fun k88 s hq N hN69 => ?_) _ (_, _, 0, 0, _, _, _) hq
      obtain ⟨y2_53, y3_53, x6_53, x7_53, y8_53, y45_53, y63_53⟩ := s
      try dsimp only at hq ⊢
      rw [glossaryref01_Number_l1] at hq
      rw [wp_seq]
      rw [wp_seq]
      rw [wp_region]
      simp only [RC, RL, RM, ↓evs_eq, unOp, wanted, aop, tkB, neD, Env.get, Env.put, Env.keep, putD, dstOk, ev, constV, nilSlice, V.demote, V.toOwn, V.cells, ty, R1.res, binOp, isShift, binOpT, isC, intOp, strOp, shiftOp, byteV, index, indexAddr, slice, bounds, hiB, loB, withB, maxV, minV, evs, pickV, lenV, builtin, initEnv, convert, K.isU8, strOf, load, store, fieldOf, append, room, fill, placeOf, splice, repl, chunks, Ty.val, Ty.agg, V.plain, H.row, H.ety, AObj.row, Nat.reduceAdd, ↓reduceIte, Nat.reduceEqDiff, Nat.reduceBEq, Nat.reduceBNe, Nat.reduceLT, Int.reduceToNat, Int.reduceEq, Int.reduceLT, Int.reduceLE, reduceCtorEq, Nat.reduceMul, Nat.reduceLeDiff]
      rw [wp_cond]
      simp only [RC, RL, RM, ↓evs_eq, unOp, wanted, aop, tkB, neD, Env.get, Env.put, Env.keep, putD, dstOk, ev, constV, nilSlice, V.demote, V.toOwn, V.cells, ty, R1.res, binOp, isShift, binOpT, isC, intOp, strOp, shiftOp, byteV, index, indexAddr, slice, bounds, hiB, loB, withB, maxV, minV, evs, pickV, lenV, builtin, initEnv, convert, K.isU8, strOf, load, store, fieldOf, append, room, fill, placeOf, splice, repl, chunks, Ty.val, Ty.agg, V.plain, H.row, H.ety, AObj.row, Nat.reduceAdd, ↓reduceIte, Nat.reduceEqDiff, Nat.reduceBEq, Nat.reduceBNe, Nat.reduceLT, Int.reduceToNat, Int.reduceEq, Int.reduceLT, Int.reduceLE, reduceCtorEq, Nat.reduceMul, Nat.reduceLeDiff]
      by_cases hc70 : x7_53 < (List.length x5_17 : Int)
      · replace hq := (R.post_if hq).1 hc70
        refine condK_t (congrArg V.bool (decide_eq_true hc70)) ?_
        try simp only [wp_skip, RC]
        refine Wk.same ?_
        try simp only [RC]
        rw [wp_seq]
        rw [wp_block]
        rw [wp_seq]
        rw [wp_region]
        obtain ⟨g75, hq⟩ := R.guard hq
        simp only [RC, RL, RM, ↓evs_eq, unOp, wanted, aop, tkB, neD, Env.get, Env.put, Env.keep, putD, dstOk, ev, constV, nilSlice, V.demote, V.toOwn, V.cells, ty, R1.res, binOp, isShift, binOpT, isC, intOp, strOp, shiftOp, byteV, index, indexAddr, slice, bounds, hiB, loB, withB, maxV, minV, evs, pickV, lenV, builtin, initEnv, convert, K.isU8, strOf, load, store, fieldOf, append, room, fill, placeOf, splice, repl, chunks, Ty.val, Ty.agg, V.plain, H.row, H.ety, AObj.row, Nat.reduceAdd, ↓reduceIte, Nat.reduceEqDiff, Nat.reduceBEq, Nat.reduceBNe, Nat.reduceLT, Int.reduceToNat, Int.reduceEq, Int.reduceLT, Int.reduceLE, reduceCtorEq, Nat.reduceMul, Nat.reduceLeDiff]
        repeat (with_reducible refine And.intro (by omega) ?_)
        obtain ⟨K86, hK87, hq⟩ := R.post_cut hq
        refine glossaryref01_digit_call (x0 := (List.getD x5_17 (Int.toNat x7_53) 0)) hq (fun r76 hq => ?_) (fun v hv => ⟨(hX v hv).1, ?_⟩)
        · replace hq := hK87 _ hq
          simp only [RC, RL, RM, ↓evs_eq, unOp, wanted, aop, tkB, neD, Env.get, Env.put, Env.keep, putD, dstOk, ev, constV, nilSlice, V.demote, V.toOwn, V.cells, ty, R1.res, binOp, isShift, binOpT, isC, intOp, strOp, shiftOp, byteV, index, indexAddr, slice, bounds, hiB, loB, withB, maxV, minV, evs, pickV, lenV, builtin, initEnv, convert, K.isU8, strOf, load, store, fieldOf, append, room, fill, placeOf, splice, repl, chunks, Ty.val, Ty.agg, V.plain, H.row, H.ety, AObj.row, Nat.reduceAdd, ↓reduceIte, Nat.reduceEqDiff, Nat.reduceBEq, Nat.reduceBNe, Nat.reduceLT, Int.reduceToNat, Int.reduceEq, Int.reduceLT, Int.reduceLE, reduceCtorEq, Nat.reduceMul, Nat.reduceLeDiff]
          rw [wp_seq]
          obtain ⟨K80, hK81, hq⟩ := R.post_cut hq
          refine seq_gen (acall_mono hp) (σ := Bool) (fun s => [(0, .str x0), (2, y2_53), (3, y3_53), (4, .int .u64 x4_17), (5, .str x5_17), (6, .int .u64 x6_53), (7, .int .i64 x7_53), (8, .int .u64 (IntKind.wrap .u64 r76)), (10, y10_17), (31, y31_17), (45, .bool (decide (x7_53 < (List.length x5_17 : Int)))), (63, .bool s)]) (fun s => h) (fun s => K80 s) (fun x63m79 hq => ?_) (fun N hN82 => ?_)
          · replace hq := hK81 _ hq
            try dsimp only at hq ⊢
            rw [wp_cond]
            simp only [RC, RL, RM, ↓evs_eq, unOp, wanted, aop, tkB, neD, Env.get, Env.put, Env.keep, putD, dstOk, ev, constV, nilSlice, V.demote, V.toOwn, V.cells, ty, R1.res, binOp, isShift, binOpT, isC, intOp, strOp, shiftOp, byteV, index, indexAddr, slice, bounds, hiB, loB, withB, maxV, minV, evs, pickV, lenV, builtin, initEnv, convert, K.isU8, strOf, load, store, fieldOf, append, room, fill, placeOf, splice, repl, chunks, Ty.val, Ty.agg, V.plain, H.row, H.ety, AObj.row, Nat.reduceAdd, ↓reduceIte, Nat.reduceEqDiff, Nat.reduceBEq, Nat.reduceBNe, Nat.reduceLT, Int.reduceToNat, Int.reduceEq, Int.reduceLT, Int.reduceLE, reduceCtorEq, Nat.reduceMul, Nat.reduceLeDiff]
            by_cases hc85 : x63m79 = true
            · replace hq := (R.post_if hq).1 hc85
              refine condK_t (congrArg V.bool (hc85)) ?_
              rw [wp_seq]
              rw [wp_region]
              simp only [RC, RL, RM, ↓evs_eq, unOp, wanted, aop, tkB, neD, Env.get, Env.put, Env.keep, putD, dstOk, ev, constV, nilSlice, V.demote, V.toOwn, V.cells, ty, R1.res, binOp, isShift, binOpT, isC, intOp, strOp, shiftOp, byteV, index, indexAddr, slice, bounds, hiB, loB, withB, maxV, minV, evs, pickV, lenV, builtin, initEnv, convert, K.isU8, strOf, load, store, fieldOf, append, room, fill, placeOf, splice, repl, chunks, Ty.val, Ty.agg, V.plain, H.row, H.ety, AObj.row, Nat.reduceAdd, ↓reduceIte, Nat.reduceEqDiff, Nat.reduceBEq, Nat.reduceBNe, Nat.reduceLT, Int.reduceToNat, Int.reduceEq, Int.reduceLT, Int.reduceLE, reduceCtorEq, Nat.reduceMul, Nat.reduceLeDiff]
              rw [wp_ret]
              simp only [retQ, results, resultAll, resultOne, Nat.zero_add, RC, RL, RM, ↓evs_eq, unOp, wanted, aop, tkB, neD, Env.get, Env.put, Env.keep, putD, dstOk, ev, constV, nilSlice, V.demote, V.toOwn, V.cells, ty, R1.res, binOp, isShift, binOpT, isC, intOp, strOp, shiftOp, byteV, index, indexAddr, slice, bounds, hiB, loB, withB, maxV, minV, evs, pickV, lenV, builtin, initEnv, convert, K.isU8, strOf, load, store, fieldOf, append, room, fill, placeOf, splice, repl, chunks, Ty.val, Ty.agg, V.plain, H.row, H.ety, AObj.row, Nat.reduceAdd, ↓reduceIte, Nat.reduceEqDiff, Nat.reduceBEq, Nat.reduceBNe, Nat.reduceLT, Int.reduceToNat, Int.reduceEq, Int.reduceLT, Int.reduceLE, reduceCtorEq, Nat.reduceMul, Nat.reduceLeDiff]
              refine ⟨_, (.refl _), ?_⟩
              replace hq := hK68 _ hq
              exact hK _ hq
            · replace hq := (R.post_if hq).2 hc85
              replace hc85 := eq_false_of_ne_true hc85
              refine condK_f (congrArg V.bool (hc85)) ?_
              try simp only [wp_skip, RC]
              refine Wk.same ?_
              try simp only [RC]
              rw [wp_region]
              simp only [RC, RL, RM, ↓evs_eq, unOp, wanted, aop, tkB, neD, Env.get, Env.put, Env.keep, putD, dstOk, ev, constV, nilSlice, V.demote, V.toOwn, V.cells, ty, R1.res, binOp, isShift, binOpT, isC, intOp, strOp, shiftOp, byteV, index, indexAddr, slice, bounds, hiB, loB, withB, maxV, minV, evs, pickV, lenV, builtin, initEnv, convert, K.isU8, strOf, load, store, fieldOf, append, room, fill, placeOf, splice, repl, chunks, Ty.val, Ty.agg, V.plain, H.row, H.ety, AObj.row, Nat.reduceAdd, ↓reduceIte, Nat.reduceEqDiff, Nat.reduceBEq, Nat.reduceBNe, Nat.reduceLT, Int.reduceToNat, Int.reduceEq, Int.reduceLT, Int.reduceLE, reduceCtorEq, Nat.reduceMul, Nat.reduceLeDiff]
              refine Wk.same ?_
              try simp only [RC]
              rw [wp_region]
              simp only [RC, RL, RM, ↓evs_eq, unOp, wanted, aop, tkB, neD, Env.get, Env.put, Env.keep, putD, dstOk, ev, constV, nilSlice, V.demote, V.toOwn, V.cells, ty, R1.res, binOp, isShift, binOpT, isC, intOp, strOp, shiftOp, byteV, index, indexAddr, slice, bounds, hiB, loB, withB, maxV, minV, evs, pickV, lenV, builtin, initEnv, convert, K.isU8, strOf, load, store, fieldOf, append, room, fill, placeOf, splice, repl, chunks, Ty.val, Ty.agg, V.plain, H.row, H.ety, AObj.row, Nat.reduceAdd, ↓reduceIte, Nat.reduceEqDiff, Nat.reduceBEq, Nat.reduceBNe, Nat.reduceLT, Int.reduceToNat, Int.reduceEq, Int.reduceLT, Int.reduceLE, reduceCtorEq, Nat.reduceMul, Nat.reduceLeDiff]
              refine Wk.le (EnvLe.cons (.refl _) (EnvLe.cons (.refl _) (EnvLe.cons (.refl _) (EnvLe.cons (.refl _) (EnvLe.cons (.refl _) (EnvLe.cons (.refl _) (EnvLe.cons (.refl _) (EnvLe.cons (.top _) (EnvLe.cons (.refl _) (EnvLe.cons (.refl _) (EnvLe.cons (.top _) (EnvLe.cons (.top _) EnvLe.nil)))))))))))) ?_
              exact hN69 (_, _, (IntKind.wrap .u64 ((IntKind.wrap .u64 (x6_53 * x4_17)) + (IntKind.wrap .u64 r76))), (IntKind.wrap .i64 (x7_53 + 1)), _, _, _) hq
          · rw [wp_region]
            simp only [RC, RL, RM, ↓evs_eq, unOp, wanted, aop, tkB, neD, Env.get, Env.put, Env.keep, putD, dstOk, ev, constV, nilSlice, V.demote, V.toOwn, V.cells, ty, R1.res, binOp, isShift, binOpT, isC, intOp, strOp, shiftOp, byteV, index, indexAddr, slice, bounds, hiB, loB, withB, maxV, minV, evs, pickV, lenV, builtin, initEnv, convert, K.isU8, strOf, load, store, fieldOf, append, room, fill, placeOf, splice, repl, chunks, Ty.val, Ty.agg, V.plain, H.row, H.ety, AObj.row, Nat.reduceAdd, ↓reduceIte, Nat.reduceEqDiff, Nat.reduceBEq, Nat.reduceBNe, Nat.reduceLT, Int.reduceToNat, Int.reduceEq, Int.reduceLT, Int.reduceLE, reduceCtorEq, Nat.reduceMul, Nat.reduceLeDiff]
            by_cases hc83 : x4_17 ≤ (IntKind.wrap .u64 r76)
            · replace hq := (R.post_if hq).1 hc83
              simp only [decide_eq_true hc83, RC, RL, RM, ↓evs_eq, unOp, wanted, aop, tkB, neD, Env.get, Env.put, Env.keep, putD, dstOk, ev, constV, nilSlice, V.demote, V.toOwn, V.cells, ty, R1.res, binOp, isShift, binOpT, isC, intOp, strOp, shiftOp, byteV, index, indexAddr, slice, bounds, hiB, loB, withB, maxV, minV, evs, pickV, lenV, builtin, initEnv, convert, K.isU8, strOf, load, store, fieldOf, append, room, fill, placeOf, splice, repl, chunks, Ty.val, Ty.agg, V.plain, H.row, H.ety, AObj.row, Nat.reduceAdd, ↓reduceIte, Nat.reduceEqDiff, Nat.reduceBEq, Nat.reduceBNe, Nat.reduceLT, Int.reduceToNat, Int.reduceEq, Int.reduceLT, Int.reduceLE, reduceCtorEq, Nat.reduceMul, Nat.reduceLeDiff]
              exact hN82 true hq
            · replace hq := (R.post_if hq).2 hc83
              obtain ⟨g84, hq⟩ := R.guard hq
              simp only [decide_eq_false hc83, RC, RL, RM, ↓evs_eq, unOp, wanted, aop, tkB, neD, Env.get, Env.put, Env.keep, putD, dstOk, ev, constV, nilSlice, V.demote, V.toOwn, V.cells, ty, R1.res, binOp, isShift, binOpT, isC, intOp, strOp, shiftOp, byteV, index, indexAddr, slice, bounds, hiB, loB, withB, maxV, minV, evs, pickV, lenV, builtin, initEnv, convert, K.isU8, strOf, load, store, fieldOf, append, room, fill, placeOf, splice, repl, chunks, Ty.val, Ty.agg, V.plain, H.row, H.ety, AObj.row, Nat.reduceAdd, ↓reduceIte, Nat.reduceEqDiff, Nat.reduceBEq, Nat.reduceBNe, Nat.reduceLT, Int.reduceToNat, Int.reduceEq, Int.reduceLT, Int.reduceLE, reduceCtorEq, Nat.reduceMul, Nat.reduceLeDiff]
              repeat (with_reducible refine And.intro (by omega) ?_)
              exact hN82 (decide ((IntKind.wrap .u64 (Int.tdiv (IntKind.wrap .u64 (18446744073709551615 - (IntKind.wrap .u64 r76))) x4_17)) < x6_53)) hq
        · simp only [RC, retQ, ↓reduceIte, Bool.false_eq_true]
          exact (hX _ hv).2
      · replace hq := (R.post_if hq).2 hc70
        refine condK_f (congrArg V.bool (decide_eq_false hc70)) ?_
        rw [wp_exit]
        try simp only [↓reduceIte, Nat.reduceEqDiff, reduceCtorEq, if_false, if_true, eq_self, Nat.succ_ne_self, RC]
        replace hq := hK68 _ hq
        try dsimp only at hq
        refine Wk.le (EnvLe.cons (.refl _) (EnvLe.cons (.refl _) (EnvLe.cons (.refl _) (EnvLe.cons (.refl _) (EnvLe.cons (.refl _) (EnvLe.cons (.refl _) (EnvLe.cons (.top _) (EnvLe.cons (.refl _) (EnvLe.cons (.refl _) (EnvLe.cons (.refl _) (EnvLe.cons (.top _) (EnvLe.cons (.refl _) EnvLe.nil)))))))))))) ?_
        try simp only [RC]
        exact hN52 (_, _, x6_53, _, _, _, _, _, _) hq
  · rw [wp_block]
    obtain ⟨K99, hK100, hq⟩ := R.post_cut hq
    refine seq_gen (acall_mono hp) (σ := Bool) (fun s => [(0, .str x0), (2, .int .u64 0), (3, .bool false), (4, .int .u64 10), (5, .str x0), (6, .top), (7, .top), (8, .top), (10, .bool s), (31, .top), (45, .top), (63, .top)]) (fun s => h) (fun s => K99 s) (fun x10m98 hq => ?_) (fun N hN101 => ?_)
    · replace hq := hK100 _ hq
      try dsimp only at hq ⊢
      rw [wp_cond]
      simp only [RC, RL, RM, ↓evs_eq, unOp, wanted, aop, tkB, neD, Env.get, Env.put, Env.keep, putD, dstOk, ev, constV, nilSlice, V.demote, V.toOwn, V.cells, ty, R1.res, binOp, isShift, binOpT, isC, intOp, strOp, shiftOp, byteV, index, indexAddr, slice, bounds, hiB, loB, withB, maxV, minV, evs, pickV, lenV, builtin, initEnv, convert, K.isU8, strOf, load, store, fieldOf, append, room, fill, placeOf, splice, repl, chunks, Ty.val, Ty.agg, V.plain, H.row, H.ety, AObj.row, Nat.reduceAdd, ↓reduceIte, Nat.reduceEqDiff, Nat.reduceBEq, Nat.reduceBNe, Nat.reduceLT, Int.reduceToNat, Int.reduceEq, Int.reduceLT, Int.reduceLE, reduceCtorEq, Nat.reduceMul, Nat.reduceLeDiff]
      by_cases hc108 : x10m98 = true
      · replace hq := (R.post_if hq).1 hc108
        refine condK_t (congrArg V.bool (hc108)) ?_
        refine wp_draw (acall_mono hp) (by kernel_rfl) (by rfl) ?_
        obtain ⟨g110, hq⟩ := R.guard hq
        simp only [RC, RL, RM, ↓evs_eq, unOp, wanted, aop, tkB, neD, Env.get, Env.put, Env.keep, putD, dstOk, ev, constV, nilSlice, V.demote, V.toOwn, V.cells, ty, R1.res, binOp, isShift, binOpT, isC, intOp, strOp, shiftOp, byteV, index, indexAddr, slice, bounds, hiB, loB, withB, maxV, minV, evs, pickV, lenV, builtin, initEnv, convert, K.isU8, strOf, load, store, fieldOf, append, room, fill, placeOf, splice, repl, chunks, Ty.val, Ty.agg, V.plain, H.row, H.ety, AObj.row, Nat.reduceAdd, ↓reduceIte, Nat.reduceEqDiff, Nat.reduceBEq, Nat.reduceBNe, Nat.reduceLT, Int.reduceToNat, Int.reduceEq, Int.reduceLT, Int.reduceLE, reduceCtorEq, Nat.reduceMul, Nat.reduceLeDiff]
        repeat (with_reducible refine And.intro (by omega) ?_)
        refine Wk.le (EnvLe.cons (.refl _) (EnvLe.cons (.refl _) (EnvLe.cons (.refl _) (EnvLe.cons (.refl _) (EnvLe.cons (.refl _) (EnvLe.cons (.refl _) (EnvLe.cons (.refl _) (EnvLe.cons (.refl _) (EnvLe.cons (.top _) (EnvLe.cons (.refl _) (EnvLe.cons (.refl _) (EnvLe.cons (.refl _) EnvLe.nil)))))))))))) ?_
        try simp only [RC]
        refine Wk.same ?_
        try simp only [RC]
        exact hN91 (16, (List.drop 2 x0), _, _) hq
      · replace hq := (R.post_if hq).2 hc108
        replace hc108 := eq_false_of_ne_true hc108
        refine condK_f (congrArg V.bool (hc108)) ?_
        obtain ⟨K114, hK115, hq⟩ := R.post_cut hq
        refine seq_gen (acall_mono hp) (σ := Bool) (fun s => [(0, .str x0), (2, .int .u64 0), (3, .bool false), (4, .int .u64 10), (5, .str x0), (6, .top), (7, .top), (8, .top), (10, .bool x10m98), (31, .bool s), (45, .top), (63, .top)]) (fun s => h) (fun s => K114 s) (fun x31m113 hq => ?_) (fun N hN116 => ?_)
        · replace hq := hK115 _ hq
          try dsimp only at hq ⊢
          rw [wp_cond]
          simp only [RC, RL, RM, ↓evs_eq, unOp, wanted, aop, tkB, neD, Env.get, Env.put, Env.keep, putD, dstOk, ev, constV, nilSlice, V.demote, V.toOwn, V.cells, ty, R1.res, binOp, isShift, binOpT, isC, intOp, strOp, shiftOp, byteV, index, indexAddr, slice, bounds, hiB, loB, withB, maxV, minV, evs, pickV, lenV, builtin, initEnv, convert, K.isU8, strOf, load, store, fieldOf, append, room, fill, placeOf, splice, repl, chunks, Ty.val, Ty.agg, V.plain, H.row, H.ety, AObj.row, Nat.reduceAdd, ↓reduceIte, Nat.reduceEqDiff, Nat.reduceBEq, Nat.reduceBNe, Nat.reduceLT, Int.reduceToNat, Int.reduceEq, Int.reduceLT, Int.reduceLE, reduceCtorEq, Nat.reduceMul, Nat.reduceLeDiff]
          by_cases hc119 : x31m113 = true
          · replace hq := (R.post_if hq).1 hc119
            refine condK_t (congrArg V.bool (hc119)) ?_
            refine wp_draw (acall_mono hp) (by kernel_rfl) (by rfl) ?_
            obtain ⟨g121, hq⟩ := R.guard hq
            simp only [RC, RL, RM, ↓evs_eq, unOp, wanted, aop, tkB, neD, Env.get, Env.put, Env.keep, putD, dstOk, ev, constV, nilSlice, V.demote, V.toOwn, V.cells, ty, R1.res, binOp, isShift, binOpT, isC, intOp, strOp, shiftOp, byteV, index, indexAddr, slice, bounds, hiB, loB, withB, maxV, minV, evs, pickV, lenV, builtin, initEnv, convert, K.isU8, strOf, load, store, fieldOf, append, room, fill, placeOf, splice, repl, chunks, Ty.val, Ty.agg, V.plain, H.row, H.ety, AObj.row, Nat.reduceAdd, ↓reduceIte, Nat.reduceEqDiff, Nat.reduceBEq, Nat.reduceBNe, Nat.reduceLT, Int.reduceToNat, Int.reduceEq, Int.reduceLT, Int.reduceLE, reduceCtorEq, Nat.reduceMul, Nat.reduceLeDiff]
            repeat (with_reducible refine And.intro (by omega) ?_)
            refine Wk.le (EnvLe.cons (.refl _) (EnvLe.cons (.refl _) (EnvLe.cons (.refl _) (EnvLe.cons (.refl _) (EnvLe.cons (.refl _) (EnvLe.cons (.refl _) (EnvLe.cons (.refl _) (EnvLe.cons (.refl _) (EnvLe.cons (.top _) (EnvLe.cons (.top _) (EnvLe.cons (.refl _) (EnvLe.cons (.refl _) EnvLe.nil)))))))))))) ?_
            try simp only [RC]
            refine Wk.same ?_
            try simp only [RC]
            refine Wk.same ?_
            try simp only [RC]
            exact hN91 (8, (List.drop 1 x0), _, _) hq
          · replace hq := (R.post_if hq).2 hc119
            replace hc119 := eq_false_of_ne_true hc119
            refine condK_f (congrArg V.bool (hc119)) ?_
            try simp only [wp_skip, RC]
            refine Wk.le (EnvLe.cons (.refl _) (EnvLe.cons (.refl _) (EnvLe.cons (.refl _) (EnvLe.cons (.refl _) (EnvLe.cons (.refl _) (EnvLe.cons (.refl _) (EnvLe.cons (.refl _) (EnvLe.cons (.refl _) (EnvLe.cons (.top _) (EnvLe.cons (.top _) (EnvLe.cons (.refl _) (EnvLe.cons (.refl _) EnvLe.nil)))))))))))) ?_
            try simp only [RC]
            refine Wk.same ?_
            try simp only [RC]
            refine Wk.same ?_
            try simp only [RC]
            exact hN91 (10, x0, _, _) hq
        · rw [wp_region]
          simp only [RC, RL, RM, ↓evs_eq, unOp, wanted, aop, tkB, neD, Env.get, Env.put, Env.keep, putD, dstOk, ev, constV, nilSlice, V.demote, V.toOwn, V.cells, ty, R1.res, binOp, isShift, binOpT, isC, intOp, strOp, shiftOp, byteV, index, indexAddr, slice, bounds, hiB, loB, withB, maxV, minV, evs, pickV, lenV, builtin, initEnv, convert, K.isU8, strOf, load, store, fieldOf, append, room, fill, placeOf, splice, repl, chunks, Ty.val, Ty.agg, V.plain, H.row, H.ety, AObj.row, Nat.reduceAdd, ↓reduceIte, Nat.reduceEqDiff, Nat.reduceBEq, Nat.reduceBNe, Nat.reduceLT, Int.reduceToNat, Int.reduceEq, Int.reduceLT, Int.reduceLE, reduceCtorEq, Nat.reduceMul, Nat.reduceLeDiff]
          by_cases hc117 : (1 : Int) < (List.length x0 : Int)
          · replace hq := (R.post_if hq).1 hc117
            obtain ⟨g118, hq⟩ := R.guard hq
            simp only [decide_eq_true hc117, RC, RL, RM, ↓evs_eq, unOp, wanted, aop, tkB, neD, Env.get, Env.put, Env.keep, putD, dstOk, ev, constV, nilSlice, V.demote, V.toOwn, V.cells, ty, R1.res, binOp, isShift, binOpT, isC, intOp, strOp, shiftOp, byteV, index, indexAddr, slice, bounds, hiB, loB, withB, maxV, minV, evs, pickV, lenV, builtin, initEnv, convert, K.isU8, strOf, load, store, fieldOf, append, room, fill, placeOf, splice, repl, chunks, Ty.val, Ty.agg, V.plain, H.row, H.ety, AObj.row, Nat.reduceAdd, ↓reduceIte, Nat.reduceEqDiff, Nat.reduceBEq, Nat.reduceBNe, Nat.reduceLT, Int.reduceToNat, Int.reduceEq, Int.reduceLT, Int.reduceLE, reduceCtorEq, Nat.reduceMul, Nat.reduceLeDiff]
            repeat (with_reducible refine And.intro (by omega) ?_)
            exact hN116 (decide (((List.getD x0 0 0).toNat : Int) = 48)) hq
          · replace hq := (R.post_if hq).2 hc117
            simp only [decide_eq_false hc117, RC, RL, RM, ↓evs_eq, unOp, wanted, aop, tkB, neD, Env.get, Env.put, Env.keep, putD, dstOk, ev, constV, nilSlice, V.demote, V.toOwn, V.cells, ty, R1.res, binOp, isShift, binOpT, isC, intOp, strOp, shiftOp, byteV, index, indexAddr, slice, bounds, hiB, loB, withB, maxV, minV, evs, pickV, lenV, builtin, initEnv, convert, K.isU8, strOf, load, store, fieldOf, append, room, fill, placeOf, splice, repl, chunks, Ty.val, Ty.agg, V.plain, H.row, H.ety, AObj.row, Nat.reduceAdd, ↓reduceIte, Nat.reduceEqDiff, Nat.reduceBEq, Nat.reduceBNe, Nat.reduceLT, Int.reduceToNat, Int.reduceEq, Int.reduceLT, Int.reduceLE, reduceCtorEq, Nat.reduceMul, Nat.reduceLeDiff]
            exact hN116 false hq
    · rw [wp_region]
      simp only [RC, RL, RM, ↓evs_eq, unOp, wanted, aop, tkB, neD, Env.get, Env.put, Env.keep, putD, dstOk, ev, constV, nilSlice, V.demote, V.toOwn, V.cells, ty, R1.res, binOp, isShift, binOpT, isC, intOp, strOp, shiftOp, byteV, index, indexAddr, slice, bounds, hiB, loB, withB, maxV, minV, evs, pickV, lenV, builtin, initEnv, convert, K.isU8, strOf, load, store, fieldOf, append, room, fill, placeOf, splice, repl, chunks, Ty.val, Ty.agg, V.plain, H.row, H.ety, AObj.row, Nat.reduceAdd, ↓reduceIte, Nat.reduceEqDiff, Nat.reduceBEq, Nat.reduceBNe, Nat.reduceLT, Int.reduceToNat, Int.reduceEq, Int.reduceLT, Int.reduceLE, reduceCtorEq, Nat.reduceMul, Nat.reduceLeDiff]
      by_cases hc102 : (2 : Int) < (List.length x0 : Int)
      · replace hq := (R.post_if hq).1 hc102
        obtain ⟨g103, hq⟩ := R.guard hq
        simp only [decide_eq_true hc102, RC, RL, RM, ↓evs_eq, unOp, wanted, aop, tkB, neD, Env.get, Env.put, Env.keep, putD, dstOk, ev, constV, nilSlice, V.demote, V.toOwn, V.cells, ty, R1.res, binOp, isShift, binOpT, isC, intOp, strOp, shiftOp, byteV, index, indexAddr, slice, bounds, hiB, loB, withB, maxV, minV, evs, pickV, lenV, builtin, initEnv, convert, K.isU8, strOf, load, store, fieldOf, append, room, fill, placeOf, splice, repl, chunks, Ty.val, Ty.agg, V.plain, H.row, H.ety, AObj.row, Nat.reduceAdd, ↓reduceIte, Nat.reduceEqDiff, Nat.reduceBEq, Nat.reduceBNe, Nat.reduceLT, Int.reduceToNat, Int.reduceEq, Int.reduceLT, Int.reduceLE, reduceCtorEq, Nat.reduceMul, Nat.reduceLeDiff]
        repeat (with_reducible refine And.intro (by omega) ?_)
        by_cases hc104 : ((List.getD x0 0 0).toNat : Int) = 48
        · replace hq := (R.post_if hq).1 hc104
          obtain ⟨g105, hq⟩ := R.guard hq
          simp only [decide_eq_true hc104, RC, RL, RM, ↓evs_eq, unOp, wanted, aop, tkB, neD, Env.get, Env.put, Env.keep, putD, dstOk, ev, constV, nilSlice, V.demote, V.toOwn, V.cells, ty, R1.res, binOp, isShift, binOpT, isC, intOp, strOp, shiftOp, byteV, index, indexAddr, slice, bounds, hiB, loB, withB, maxV, minV, evs, pickV, lenV, builtin, initEnv, convert, K.isU8, strOf, load, store, fieldOf, append, room, fill, placeOf, splice, repl, chunks, Ty.val, Ty.agg, V.plain, H.row, H.ety, AObj.row, Nat.reduceAdd, ↓reduceIte, Nat.reduceEqDiff, Nat.reduceBEq, Nat.reduceBNe, Nat.reduceLT, Int.reduceToNat, Int.reduceEq, Int.reduceLT, Int.reduceLE, reduceCtorEq, Nat.reduceMul, Nat.reduceLeDiff]
          repeat (with_reducible refine And.intro (by omega) ?_)
          by_cases hc106 : ((List.getD x0 1 0).toNat : Int) = 120
          · replace hq := (R.post_if hq).1 hc106
            simp only [decide_eq_true hc106, RC, RL, RM, ↓evs_eq, unOp, wanted, aop, tkB, neD, Env.get, Env.put, Env.keep, putD, dstOk, ev, constV, nilSlice, V.demote, V.toOwn, V.cells, ty, R1.res, binOp, isShift, binOpT, isC, intOp, strOp, shiftOp, byteV, index, indexAddr, slice, bounds, hiB, loB, withB, maxV, minV, evs, pickV, lenV, builtin, initEnv, convert, K.isU8, strOf, load, store, fieldOf, append, room, fill, placeOf, splice, repl, chunks, Ty.val, Ty.agg, V.plain, H.row, H.ety, AObj.row, Nat.reduceAdd, ↓reduceIte, Nat.reduceEqDiff, Nat.reduceBEq, Nat.reduceBNe, Nat.reduceLT, Int.reduceToNat, Int.reduceEq, Int.reduceLT, Int.reduceLE, reduceCtorEq, Nat.reduceMul, Nat.reduceLeDiff]
            exact hN101 true hq
          · replace hq := (R.post_if hq).2 hc106
            obtain ⟨g107, hq⟩ := R.guard hq
            simp only [decide_eq_false hc106, RC, RL, RM, ↓evs_eq, unOp, wanted, aop, tkB, neD, Env.get, Env.put, Env.keep, putD, dstOk, ev, constV, nilSlice, V.demote, V.toOwn, V.cells, ty, R1.res, binOp, isShift, binOpT, isC, intOp, strOp, shiftOp, byteV, index, indexAddr, slice, bounds, hiB, loB, withB, maxV, minV, evs, pickV, lenV, builtin, initEnv, convert, K.isU8, strOf, load, store, fieldOf, append, room, fill, placeOf, splice, repl, chunks, Ty.val, Ty.agg, V.plain, H.row, H.ety, AObj.row, Nat.reduceAdd, ↓reduceIte, Nat.reduceEqDiff, Nat.reduceBEq, Nat.reduceBNe, Nat.reduceLT, Int.reduceToNat, Int.reduceEq, Int.reduceLT, Int.reduceLE, reduceCtorEq, Nat.reduceMul, Nat.reduceLeDiff]
            repeat (with_reducible refine And.intro (by omega) ?_)
            exact hN101 (decide (((List.getD x0 1 0).toNat : Int) = 88)) hq
        · replace hq := (R.post_if hq).2 hc104
          simp only [decide_eq_false hc104, RC, RL, RM, ↓evs_eq, unOp, wanted, aop, tkB, neD, Env.get, Env.put, Env.keep, putD, dstOk, ev, constV, nilSlice, V.demote, V.toOwn, V.cells, ty, R1.res, binOp, isShift, binOpT, isC, intOp, strOp, shiftOp, byteV, index, indexAddr, slice, bounds, hiB, loB, withB, maxV, minV, evs, pickV, lenV, builtin, initEnv, convert, K.isU8, strOf, load, store, fieldOf, append, room, fill, placeOf, splice, repl, chunks, Ty.val, Ty.agg, V.plain, H.row, H.ety, AObj.row, Nat.reduceAdd, ↓reduceIte, Nat.reduceEqDiff, Nat.reduceBEq, Nat.reduceBNe, Nat.reduceLT, Int.reduceToNat, Int.reduceEq, Int.reduceLT, Int.reduceLE, reduceCtorEq, Nat.reduceMul, Nat.reduceLeDiff]
          exact hN101 false hq
      · replace hq := (R.post_if hq).2 hc102
        simp only [decide_eq_false hc102, RC, RL, RM, ↓evs_eq, unOp, wanted, aop, tkB, neD, Env.get, Env.put, Env.keep, putD, dstOk, ev, constV, nilSlice, V.demote, V.toOwn, V.cells, ty, R1.res, binOp, isShift, binOpT, isC, intOp, strOp, shiftOp, byteV, index, indexAddr, slice, bounds, hiB, loB, withB, maxV, minV, evs, pickV, lenV, builtin, initEnv, convert, K.isU8, strOf, load, store, fieldOf, append, room, fill, placeOf, splice, repl, chunks, Ty.val, Ty.agg, V.plain, H.row, H.ety, AObj.row, Nat.reduceAdd, ↓reduceIte, Nat.reduceEqDiff, Nat.reduceBEq, Nat.reduceBNe, Nat.reduceLT, Int.reduceToNat, Int.reduceEq, Int.reduceLT, Int.reduceLE, reduceCtorEq, Nat.reduceMul, Nat.reduceLeDiff]
        exact hN101 false hq
end Go.Proofs.Ytgbgnglngpbehaa.Pv
