/- Functions of the program, as plain Lean functions, and that the code comes to them: printed by gen.py. -/
import Derived.Test.YtgbgnglngpbehaaQP
set_option linter.unusedVariables false
set_option linter.unusedSimpArgs false
set_option maxHeartbeats 4000000
set_option maxRecDepth 10000
namespace Go.Proofs.Ytgbgnglngpbehaa.Pv
open Go Go.Proofs

def quote_Digits_l0 : Nat → Int → Int → List UInt8 → R ((List UInt8))
  | 0, _, _, _ => R.stuck
  | k + 1, x0_17, x4_17, o0_0_17 => if 0 ≤ (IntKind.wrap .i64 (x4_17 - 1)) ∧ (IntKind.wrap .i64 (x4_17 - 1)) < 20 then (if (Int.toNat (IntKind.wrap .i64 (x4_17 - 1))) < List.length o0_0_17 then (if (IntKind.wrap .u64 (Int.tdiv x0_17 10)) = 0 then (if 0 ≤ (IntKind.wrap .i64 (x4_17 - 1)) ∧ (IntKind.wrap .i64 (x4_17 - 1)) ≤ 20 then (if (Int.toNat (IntKind.wrap .i64 (x4_17 - 1))) + (20 - (Int.toNat (IntKind.wrap .i64 (x4_17 - 1)))) ≤ List.length (List.set o0_0_17 (Int.toNat (IntKind.wrap .i64 (x4_17 - 1))) (u8 (IntKind.wrap .u8 (48 + ((u8 (IntKind.wrap .u8 (Int.tmod x0_17 10))).toNat : Int))))) then (R.ok (List.take (20 - (Int.toNat (IntKind.wrap .i64 (x4_17 - 1)))) (List.drop (Int.toNat (IntKind.wrap .i64 (x4_17 - 1))) (List.set o0_0_17 (Int.toNat (IntKind.wrap .i64 (x4_17 - 1))) (u8 (IntKind.wrap .u8 (48 + ((u8 (IntKind.wrap .u8 (Int.tmod x0_17 10))).toNat : Int)))))))) else R.stuck) else R.stuck) else (quote_Digits_l0 k (IntKind.wrap .u64 (Int.tdiv x0_17 10)) (IntKind.wrap .i64 (x4_17 - 1)) (List.set o0_0_17 (Int.toNat (IntKind.wrap .i64 (x4_17 - 1))) (u8 (IntKind.wrap .u8 (48 + ((u8 (IntKind.wrap .u8 (Int.tmod x0_17 10))).toNat : Int))))))) else R.stuck) else R.stuck
def quote_Digits (x0 : Int) : R ((List UInt8)) :=
  quote_Digits_l0 Many x0 20 ([0, 0, 0, 0, 0, 0, 0, 0, 0, 0, 0, 0, 0, 0, 0, 0, 0, 0, 0, 0])
theorem quote_Digits_call {h : H} {x0 : Int} {Q : Out → H → Prop} {KK : ((List UInt8)) → Prop} {X : V → Prop} (hq : (quote_Digits x0).post KK X) (hK : ∀ r, KK r → Q (.ret (.str r)) h) (hX : ∀ v, X v → V.Cl 0 v ∧ Q (.panic v) h) : CA qprim 15 [.int .u64 x0] h Q := by
  refine acalln hp Try.func15 rfl (by kernel_rfl) (n := 20) rfl (rs := [.tmp 2]) rfl [0, 2, 3, 4, 16] [] true (by simp) ?_
  unfold quote_Digits at hq
  simp only [initEnv, List.map_cons, List.map_nil, List.getD_cons_zero, List.getD_cons_succ, List.getD_nil, V.demote]
  rw [wp_seq]
  rw [wp_region]
  simp only [RC, RL, RM, ↓evs_eq, unOp, wanted, aop, tkB, neD, Env.get, Env.put, Env.keep, putD, dstOk, ev, constV, nilSlice, V.demote, V.toOwn, V.cells, ty, R1.res, binOp, isShift, binOpT, isC, intOp, strOp, shiftOp, byteV, index, indexAddr, slice, bounds, hiB, loB, withB, maxV, minV, evs, pickV, lenV, builtin, initEnv, convert, K.isU8, strOf, load, store, fieldOf, append, room, fill, placeOf, splice, repl, chunks, Ty.val, Ty.agg, V.plain, H.row, H.ety, AObj.row, Nat.reduceAdd, ↓reduceIte, Nat.reduceEqDiff, Nat.reduceBEq, Nat.reduceBNe, Nat.reduceLT, Int.reduceToNat, Int.reduceEq, Int.reduceLT, Int.reduceLE, reduceCtorEq, Nat.reduceMul, Nat.reduceLeDiff]
  rw [wp_seq]
  rw [wp_region]
  simp only [RC, RL, RM, ↓evs_eq, unOp, wanted, aop, tkB, neD, Env.get, Env.put, Env.keep, putD, dstOk, ev, constV, nilSlice, V.demote, V.toOwn, V.cells, ty, R1.res, binOp, isShift, binOpT, isC, intOp, strOp, shiftOp, byteV, index, indexAddr, slice, bounds, hiB, loB, withB, maxV, minV, evs, pickV, lenV, builtin, initEnv, convert, K.isU8, strOf, load, store, fieldOf, append, room, fill, placeOf, splice, repl, chunks, Ty.val, Ty.agg, V.plain, H.row, H.ety, AObj.row, Nat.reduceAdd, ↓reduceIte, Nat.reduceEqDiff, Nat.reduceBEq, Nat.reduceBNe, Nat.reduceLT, Int.reduceToNat, Int.reduceEq, Int.reduceLT, Int.reduceLE, reduceCtorEq, Nat.reduceMul, Nat.reduceLeDiff]
  rw [wp_seq]
  rw [wp_region]
  simp only [RC, RL, RM, ↓evs_eq, unOp, wanted, aop, tkB, neD, Env.get, Env.put, Env.keep, putD, dstOk, ev, constV, nilSlice, V.demote, V.toOwn, V.cells, ty, R1.res, binOp, isShift, binOpT, isC, intOp, strOp, shiftOp, byteV, index, indexAddr, slice, bounds, hiB, loB, withB, maxV, minV, evs, pickV, lenV, builtin, initEnv, convert, K.isU8, strOf, load, store, fieldOf, append, room, fill, placeOf, splice, repl, chunks, Ty.val, Ty.agg, V.plain, H.row, H.ety, AObj.row, Nat.reduceAdd, ↓reduceIte, Nat.reduceEqDiff, Nat.reduceBEq, Nat.reduceBNe, Nat.reduceLT, Int.reduceToNat, Int.reduceEq, Int.reduceLT, Int.reduceLE, reduceCtorEq, Nat.reduceMul, Nat.reduceLeDiff]
  rw [wp_block]
  refine loop_in ?_
  refine Wk.le (EnvLe.cons (.refl _) (EnvLe.cons (.top _) (EnvLe.cons (.refl _) (EnvLe.cons (.refl _) (EnvLe.cons (.refl _) EnvLe.nil))))) ?_
  refine loop_gen (acall_mono hp) (σ := Int × V × Int × V × (List UInt8)) (fun s => [(0, .int .u64 s.1), (2, s.2.1), (3, .ref h.length 0), (4, .int .i64 s.2.2.1), (16, s.2.2.2.1)]) (fun s => h ++ [.cells 43 (List.map byteV s.2.2.2.2)]) (fun k s => (quote_Digits_l0 k s.1 s.2.2.1 s.2.2.2.2).post KK X) (fun s hs => hs) (fun k49 s hq N hN33 => ?_) _ (x0, _, 20, _, [0, 0, 0, 0, 0, 0, 0, 0, 0, 0, 0, 0, 0, 0, 0, 0, 0, 0, 0, 0]) hq
  obtain ⟨x0_17, y2_17, x4_17, y16_17, o0_0_17⟩ := s
  try dsimp only at hq ⊢
  rw [quote_Digits_l0] at hq
  rw [wp_block]
  rw [wp_seq]
  rw [wp_region]
  simp only [RC, RL, RM, ↓evs_eq, unOp, wanted, aop, tkB, neD, Env.get, Env.put, Env.keep, putD, dstOk, ev, constV, nilSlice, V.demote, V.toOwn, V.cells, ty, R1.res, binOp, isShift, binOpT, isC, intOp, strOp, shiftOp, byteV, index, indexAddr, slice, bounds, hiB, loB, withB, maxV, minV, evs, pickV, lenV, builtin, initEnv, convert, K.isU8, strOf, load, store, fieldOf, append, room, fill, placeOf, splice, repl, chunks, Ty.val, Ty.agg, V.plain, H.row, H.ety, AObj.row, Nat.reduceAdd, ↓reduceIte, Nat.reduceEqDiff, Nat.reduceBEq, Nat.reduceBNe, Nat.reduceLT, Int.reduceToNat, Int.reduceEq, Int.reduceLT, Int.reduceLE, reduceCtorEq, Nat.reduceMul, Nat.reduceLeDiff]
  rw [wp_seq]
  rw [wp_region]
  obtain ⟨g41, hq⟩ := R.guard hq
  obtain ⟨g42, hq⟩ := R.guard hq
  have e39 := u8_fix (n := (IntKind.wrap .u8 (Int.tmod x0_17 10))) (wrap_u8 _)
  have e40 := u8_fix (n := (IntKind.wrap .u8 (48 + ((u8 (IntKind.wrap .u8 (Int.tmod x0_17 10))).toNat : Int)))) (wrap_u8 _)
  have e43 : List.map byteV (List.take (Int.toNat (IntKind.wrap .i64 (x4_17 - 1))) o0_0_17) ++ (.int .u8 ((u8 (IntKind.wrap .u8 (48 + ((u8 (IntKind.wrap .u8 (Int.tmod x0_17 10))).toNat : Int)))).toNat : Int)) :: List.map byteV (List.drop ((Int.toNat (IntKind.wrap .i64 (x4_17 - 1))) + 1) o0_0_17) = List.map byteV (List.set o0_0_17 (Int.toNat (IntKind.wrap .i64 (x4_17 - 1))) (u8 (IntKind.wrap .u8 (48 + ((u8 (IntKind.wrap .u8 (Int.tmod x0_17 10))).toNat : Int))))) := set_map (f := byteV) (l := o0_0_17) (x := (u8 (IntKind.wrap .u8 (48 + ((u8 (IntKind.wrap .u8 (Int.tmod x0_17 10))).toNat : Int))))) (n := (Int.toNat (IntKind.wrap .i64 (x4_17 - 1)))) g42
  simp only [e39, e40, e43, RC, RL, RM, ↓evs_eq, unOp, wanted, aop, tkB, neD, Env.get, Env.put, Env.keep, putD, dstOk, ev, constV, nilSlice, V.demote, V.toOwn, V.cells, ty, R1.res, binOp, isShift, binOpT, isC, intOp, strOp, shiftOp, byteV, index, indexAddr, slice, bounds, hiB, loB, withB, maxV, minV, evs, pickV, lenV, builtin, initEnv, convert, K.isU8, strOf, load, store, fieldOf, append, room, fill, placeOf, splice, repl, chunks, Ty.val, Ty.agg, V.plain, H.row, H.ety, AObj.row, Nat.reduceAdd, ↓reduceIte, Nat.reduceEqDiff, Nat.reduceBEq, Nat.reduceBNe, Nat.reduceLT, Int.reduceToNat, Int.reduceEq, Int.reduceLT, Int.reduceLE, reduceCtorEq, Nat.reduceMul, Nat.reduceLeDiff]
  repeat (with_reducible refine And.intro (by omega) ?_)
  rw [wp_seq]
  rw [wp_region]
  simp only [RC, RL, RM, ↓evs_eq, unOp, wanted, aop, tkB, neD, Env.get, Env.put, Env.keep, putD, dstOk, ev, constV, nilSlice, V.demote, V.toOwn, V.cells, ty, R1.res, binOp, isShift, binOpT, isC, intOp, strOp, shiftOp, byteV, index, indexAddr, slice, bounds, hiB, loB, withB, maxV, minV, evs, pickV, lenV, builtin, initEnv, convert, K.isU8, strOf, load, store, fieldOf, append, room, fill, placeOf, splice, repl, chunks, Ty.val, Ty.agg, V.plain, H.row, H.ety, AObj.row, Nat.reduceAdd, ↓reduceIte, Nat.reduceEqDiff, Nat.reduceBEq, Nat.reduceBNe, Nat.reduceLT, Int.reduceToNat, Int.reduceEq, Int.reduceLT, Int.reduceLE, reduceCtorEq, Nat.reduceMul, Nat.reduceLeDiff]
  rw [wp_seq]
  rw [wp_region]
  simp only [RC, RL, RM, ↓evs_eq, unOp, wanted, aop, tkB, neD, Env.get, Env.put, Env.keep, putD, dstOk, ev, constV, nilSlice, V.demote, V.toOwn, V.cells, ty, R1.res, binOp, isShift, binOpT, isC, intOp, strOp, shiftOp, byteV, index, indexAddr, slice, bounds, hiB, loB, withB, maxV, minV, evs, pickV, lenV, builtin, initEnv, convert, K.isU8, strOf, load, store, fieldOf, append, room, fill, placeOf, splice, repl, chunks, Ty.val, Ty.agg, V.plain, H.row, H.ety, AObj.row, Nat.reduceAdd, ↓reduceIte, Nat.reduceEqDiff, Nat.reduceBEq, Nat.reduceBNe, Nat.reduceLT, Int.reduceToNat, Int.reduceEq, Int.reduceLT, Int.reduceLE, reduceCtorEq, Nat.reduceMul, Nat.reduceLeDiff]
  rw [wp_cond]
  simp only [RC, RL, RM, ↓evs_eq, unOp, wanted, aop, tkB, neD, Env.get, Env.put, Env.keep, putD, dstOk, ev, constV, nilSlice, V.demote, V.toOwn, V.cells, ty, R1.res, binOp, isShift, binOpT, isC, intOp, strOp, shiftOp, byteV, index, indexAddr, slice, bounds, hiB, loB, withB, maxV, minV, evs, pickV, lenV, builtin, initEnv, convert, K.isU8, strOf, load, store, fieldOf, append, room, fill, placeOf, splice, repl, chunks, Ty.val, Ty.agg, V.plain, H.row, H.ety, AObj.row, Nat.reduceAdd, ↓reduceIte, Nat.reduceEqDiff, Nat.reduceBEq, Nat.reduceBNe, Nat.reduceLT, Int.reduceToNat, Int.reduceEq, Int.reduceLT, Int.reduceLE, reduceCtorEq, Nat.reduceMul, Nat.reduceLeDiff]
  by_cases hc44 : (IntKind.wrap .u64 (Int.tdiv x0_17 10)) = 0
  · replace hq := (R.post_if hq).1 hc44
    refine condK_t (congrArg V.bool (decide_eq_true hc44)) ?_
    rw [wp_seq]
    rw [wp_region]
    obtain ⟨g47, hq⟩ := R.guard hq
    obtain ⟨g48, hq⟩ := R.guard hq
    simp only [RC, RL, RM, ↓evs_eq, unOp, wanted, aop, tkB, neD, Env.get, Env.put, Env.keep, putD, dstOk, ev, constV, nilSlice, V.demote, V.toOwn, V.cells, ty, R1.res, binOp, isShift, binOpT, isC, intOp, strOp, shiftOp, byteV, index, indexAddr, slice, bounds, hiB, loB, withB, maxV, minV, evs, pickV, lenV, builtin, initEnv, convert, K.isU8, strOf, load, store, fieldOf, append, room, fill, placeOf, splice, repl, chunks, Ty.val, Ty.agg, V.plain, H.row, H.ety, AObj.row, Nat.reduceAdd, ↓reduceIte, Nat.reduceEqDiff, Nat.reduceBEq, Nat.reduceBNe, Nat.reduceLT, Int.reduceToNat, Int.reduceEq, Int.reduceLT, Int.reduceLE, reduceCtorEq, Nat.reduceMul, Nat.reduceLeDiff]
    repeat (with_reducible refine And.intro (by omega) ?_)
    rw [wp_ret]
    simp only [retQ, results, resultAll, resultOne, Nat.zero_add, RC, RL, RM, ↓evs_eq, unOp, wanted, aop, tkB, neD, Env.get, Env.put, Env.keep, putD, dstOk, ev, constV, nilSlice, V.demote, V.toOwn, V.cells, ty, R1.res, binOp, isShift, binOpT, isC, intOp, strOp, shiftOp, byteV, index, indexAddr, slice, bounds, hiB, loB, withB, maxV, minV, evs, pickV, lenV, builtin, initEnv, convert, K.isU8, strOf, load, store, fieldOf, append, room, fill, placeOf, splice, repl, chunks, Ty.val, Ty.agg, V.plain, H.row, H.ety, AObj.row, Nat.reduceAdd, ↓reduceIte, Nat.reduceEqDiff, Nat.reduceBEq, Nat.reduceBNe, Nat.reduceLT, Int.reduceToNat, Int.reduceEq, Int.reduceLT, Int.reduceLE, reduceCtorEq, Nat.reduceMul, Nat.reduceLeDiff]
    refine ⟨_, (.refl _), ?_⟩
    refine leave_ok rfl (.str _) ?_
    exact hK _ hq
  · replace hq := (R.post_if hq).2 hc44
    refine condK_f (congrArg V.bool (decide_eq_false hc44)) ?_
    try simp only [wp_skip, RC]
    refine Wk.le (EnvLe.cons (.refl _) (EnvLe.cons (.refl _) (EnvLe.cons (.refl _) (EnvLe.cons (.refl _) (EnvLe.cons (.top _) EnvLe.nil))))) ?_
    try simp only [RC]
    refine Wk.same ?_
    try simp only [RC]
    refine Wk.same ?_
    exact hN33 ((IntKind.wrap .u64 (Int.tdiv x0_17 10)), _, (IntKind.wrap .i64 (x4_17 - 1)), _, (List.set o0_0_17 (Int.toNat (IntKind.wrap .i64 (x4_17 - 1))) (u8 (IntKind.wrap .u8 (48 + ((u8 (IntKind.wrap .u8 (Int.tmod x0_17 10))).toNat : Int)))))) hq

def glossaryref01_Digits_j0 (x3_11 : List UInt8) : R ((List UInt8)) :=
  R.ok x3_11
def glossaryref01_Digits_l1 : Nat → Int → List UInt8 → R ((List UInt8))
  | 0, _, _ => R.stuck
  | k + 1, x0_13, x3_13 => (if (0 : Int) < x0_13 then (R.ok true) else (R.ok (decide (x3_13 = [])))).bind fun x9m23 => if x9m23 = true then (if List.length ((Utf8.encode (IntKind.wrap .i32 (IntKind.wrap .u64 (48 + (Int.tmod x0_13 10))))).data.toList) + List.length x3_13 ≤ 1000000000 then (glossaryref01_Digits_l1 k (IntKind.wrap .u64 (Int.tdiv x0_13 10)) (((Utf8.encode (IntKind.wrap .i32 (IntKind.wrap .u64 (48 + (Int.tmod x0_13 10))))).data.toList) ++ x3_13)) else R.stuck) else (R.ok x3_13)
def glossaryref01_Digits (x0 : Int) : R ((List UInt8)) :=
  (glossaryref01_Digits_l1 Many x0 []).bind fun x3p32 => glossaryref01_Digits_j0 x3p32
theorem glossaryref01_Digits_call {h : H} {x0 : Int} {Q : Out → H → Prop} {KK : ((List UInt8)) → Prop} {X : V → Prop} (hq : (glossaryref01_Digits x0).post KK X) (hK : ∀ r, KK r → Q (.ret (.str r)) h) (hX : ∀ v, X v → V.Cl 0 v ∧ Q (.panic v) h) : CA qprim 16 [.int .u64 x0] h Q := by
  refine acalln hp Try.func16 rfl (by kernel_rfl) (n := 20) rfl (rs := [.tmp 2]) rfl [0, 2, 3, 9] [] false (by simp) ?_
  unfold glossaryref01_Digits at hq
  simp only [initEnv, List.map_cons, List.map_nil, List.getD_cons_zero, List.getD_cons_succ, List.getD_nil, V.demote]
  rw [wp_seq]
  rw [wp_region]
  simp only [RC, RL, RM, ↓evs_eq, unOp, wanted, aop, tkB, neD, Env.get, Env.put, Env.keep, putD, dstOk, ev, constV, nilSlice, V.demote, V.toOwn, V.cells, ty, R1.res, binOp, isShift, binOpT, isC, intOp, strOp, shiftOp, byteV, index, indexAddr, slice, bounds, hiB, loB, withB, maxV, minV, evs, pickV, lenV, builtin, initEnv, convert, K.isU8, strOf, load, store, fieldOf, append, room, fill, placeOf, splice, repl, chunks, Ty.val, Ty.agg, V.plain, H.row, H.ety, AObj.row, Nat.reduceAdd, ↓reduceIte, Nat.reduceEqDiff, Nat.reduceBEq, Nat.reduceBNe, Nat.reduceLT, Int.reduceToNat, Int.reduceEq, Int.reduceLT, Int.reduceLE, reduceCtorEq, Nat.reduceMul, Nat.reduceLeDiff]
  rw [wp_seq]
  rw [wp_region]
  simp only [RC, RL, RM, ↓evs_eq, unOp, wanted, aop, tkB, neD, Env.get, Env.put, Env.keep, putD, dstOk, ev, constV, nilSlice, V.demote, V.toOwn, V.cells, ty, R1.res, binOp, isShift, binOpT, isC, intOp, strOp, shiftOp, byteV, index, indexAddr, slice, bounds, hiB, loB, withB, maxV, minV, evs, pickV, lenV, builtin, initEnv, convert, K.isU8, strOf, load, store, fieldOf, append, room, fill, placeOf, splice, repl, chunks, Ty.val, Ty.agg, V.plain, H.row, H.ety, AObj.row, Nat.reduceAdd, ↓reduceIte, Nat.reduceEqDiff, Nat.reduceBEq, Nat.reduceBNe, Nat.reduceLT, Int.reduceToNat, Int.reduceEq, Int.reduceLT, Int.reduceLE, reduceCtorEq, Nat.reduceMul, Nat.reduceLeDiff]
  refine seq_gen (acall_mono hp) (σ := V × (List UInt8) × V) (fun s => [(0, s.1), (2, .str []), (3, .str s.2.1), (9, s.2.2)]) (fun s => h) (fun s => (glossaryref01_Digits_j0 s.2.1).post KK X) (fun s hq => ?_) (fun N hN12 => ?_)
  · obtain ⟨y0_11, x3_11, y9_11⟩ := s
    try dsimp only at hq ⊢
    unfold glossaryref01_Digits_j0 at hq
    rw [wp_seq]
    rw [wp_region]
    simp only [RC, RL, RM, ↓evs_eq, unOp, wanted, aop, tkB, neD, Env.get, Env.put, Env.keep, putD, dstOk, ev, constV, nilSlice, V.demote, V.toOwn, V.cells, ty, R1.res, binOp, isShift, binOpT, isC, intOp, strOp, shiftOp, byteV, index, indexAddr, slice, bounds, hiB, loB, withB, maxV, minV, evs, pickV, lenV, builtin, initEnv, convert, K.isU8, strOf, load, store, fieldOf, append, room, fill, placeOf, splice, repl, chunks, Ty.val, Ty.agg, V.plain, H.row, H.ety, AObj.row, Nat.reduceAdd, ↓reduceIte, Nat.reduceEqDiff, Nat.reduceBEq, Nat.reduceBNe, Nat.reduceLT, Int.reduceToNat, Int.reduceEq, Int.reduceLT, Int.reduceLE, reduceCtorEq, Nat.reduceMul, Nat.reduceLeDiff]
    rw [wp_ret]
    simp only [retQ, results, resultAll, resultOne, Nat.zero_add, RC, RL, RM, ↓evs_eq, unOp, wanted, aop, tkB, neD, Env.get, Env.put, Env.keep, putD, dstOk, ev, constV, nilSlice, V.demote, V.toOwn, V.cells, ty, R1.res, binOp, isShift, binOpT, isC, intOp, strOp, shiftOp, byteV, index, indexAddr, slice, bounds, hiB, loB, withB, maxV, minV, evs, pickV, lenV, builtin, initEnv, convert, K.isU8, strOf, load, store, fieldOf, append, room, fill, placeOf, splice, repl, chunks, Ty.val, Ty.agg, V.plain, H.row, H.ety, AObj.row, Nat.reduceAdd, ↓reduceIte, Nat.reduceEqDiff, Nat.reduceBEq, Nat.reduceBNe, Nat.reduceLT, Int.reduceToNat, Int.reduceEq, Int.reduceLT, Int.reduceLE, reduceCtorEq, Nat.reduceMul, Nat.reduceLeDiff]
    refine ⟨_, (.refl _), ?_⟩
    exact hK _ hq
  · rw [wp_block]
    refine loop_in ?_
    refine Wk.same ?_
    obtain ⟨K19, hK20, hq⟩ := R.post_cut hq
    refine loop_gen (acall_mono hp) (σ := Int × (List UInt8) × V) (fun s => [(0, .int .u64 s.1), (2, .str []), (3, .str s.2.1), (9, s.2.2)]) (fun s => h) (fun k s => (glossaryref01_Digits_l1 k s.1 s.2.1).post K19 X) (fun s hs => hs) (fun k31 s hq N hN21 => ?_) _ (x0, [], _) hq
    obtain ⟨x0_13, x3_13, y9_13⟩ := s
    try dsimp only at hq ⊢
    rw [glossaryref01_Digits_l1] at hq
    rw [wp_seq]
    obtain ⟨K24, hK25, hq⟩ := R.post_cut hq
    refine seq_gen (acall_mono hp) (σ := Bool) (fun s => [(0, .int .u64 x0_13), (2, .str []), (3, .str x3_13), (9, .bool s)]) (fun s => h) (fun s => K24 s) (fun x9m23 hq => ?_) (fun N hN26 => ?_)
    · replace hq := hK25 _ hq
      try dsimp only at hq ⊢
      rw [wp_cond]
      simp only [RC, RL, RM, ↓evs_eq, unOp, wanted, aop, tkB, neD, Env.get, Env.put, Env.keep, putD, dstOk, ev, constV, nilSlice, V.demote, V.toOwn, V.cells, ty, R1.res, binOp, isShift, binOpT, isC, intOp, strOp, shiftOp, byteV, index, indexAddr, slice, bounds, hiB, loB, withB, maxV, minV, evs, pickV, lenV, builtin, initEnv, convert, K.isU8, strOf, load, store, fieldOf, append, room, fill, placeOf, splice, repl, chunks, Ty.val, Ty.agg, V.plain, H.row, H.ety, AObj.row, Nat.reduceAdd, ↓reduceIte, Nat.reduceEqDiff, Nat.reduceBEq, Nat.reduceBNe, Nat.reduceLT, Int.reduceToNat, Int.reduceEq, Int.reduceLT, Int.reduceLE, reduceCtorEq, Nat.reduceMul, Nat.reduceLeDiff]
      by_cases hc28 : x9m23 = true
      · replace hq := (R.post_if hq).1 hc28
        refine condK_t (congrArg V.bool (hc28)) ?_
        try simp only [wp_skip, RC]
        refine Wk.same ?_
        try simp only [RC]
        rw [wp_block]
        rw [wp_seq]
        rw [wp_region]
        obtain ⟨g30, hq⟩ := R.guard hq
        simp only [RC, RL, RM, ↓evs_eq, unOp, wanted, aop, tkB, neD, Env.get, Env.put, Env.keep, putD, dstOk, ev, constV, nilSlice, V.demote, V.toOwn, V.cells, ty, R1.res, binOp, isShift, binOpT, isC, intOp, strOp, shiftOp, byteV, index, indexAddr, slice, bounds, hiB, loB, withB, maxV, minV, evs, pickV, lenV, builtin, initEnv, convert, K.isU8, strOf, load, store, fieldOf, append, room, fill, placeOf, splice, repl, chunks, Ty.val, Ty.agg, V.plain, H.row, H.ety, AObj.row, Nat.reduceAdd, ↓reduceIte, Nat.reduceEqDiff, Nat.reduceBEq, Nat.reduceBNe, Nat.reduceLT, Int.reduceToNat, Int.reduceEq, Int.reduceLT, Int.reduceLE, reduceCtorEq, Nat.reduceMul, Nat.reduceLeDiff]
        repeat (with_reducible refine And.intro (by omega) ?_)
        rw [wp_region]
        simp only [RC, RL, RM, ↓evs_eq, unOp, wanted, aop, tkB, neD, Env.get, Env.put, Env.keep, putD, dstOk, ev, constV, nilSlice, V.demote, V.toOwn, V.cells, ty, R1.res, binOp, isShift, binOpT, isC, intOp, strOp, shiftOp, byteV, index, indexAddr, slice, bounds, hiB, loB, withB, maxV, minV, evs, pickV, lenV, builtin, initEnv, convert, K.isU8, strOf, load, store, fieldOf, append, room, fill, placeOf, splice, repl, chunks, Ty.val, Ty.agg, V.plain, H.row, H.ety, AObj.row, Nat.reduceAdd, ↓reduceIte, Nat.reduceEqDiff, Nat.reduceBEq, Nat.reduceBNe, Nat.reduceLT, Int.reduceToNat, Int.reduceEq, Int.reduceLT, Int.reduceLE, reduceCtorEq, Nat.reduceMul, Nat.reduceLeDiff]
        refine Wk.le (EnvLe.cons (.refl _) (EnvLe.cons (.refl _) (EnvLe.cons (.refl _) (EnvLe.cons (.top _) EnvLe.nil)))) ?_
        try simp only [RC]
        refine Wk.same ?_
        exact hN21 ((IntKind.wrap .u64 (Int.tdiv x0_13 10)), (((Utf8.encode (IntKind.wrap .i32 (IntKind.wrap .u64 (48 + (Int.tmod x0_13 10))))).data.toList) ++ x3_13), _) hq
      · replace hq := (R.post_if hq).2 hc28
        replace hc28 := eq_false_of_ne_true hc28
        refine condK_f (congrArg V.bool (hc28)) ?_
        rw [wp_exit]
        try simp only [↓reduceIte, Nat.reduceEqDiff, reduceCtorEq, if_false, if_true, eq_self, Nat.succ_ne_self, RC]
        replace hq := hK20 _ hq
        try dsimp only at hq
        refine Wk.le (EnvLe.cons (.top _) (EnvLe.cons (.refl _) (EnvLe.cons (.refl _) (EnvLe.cons (.top _) EnvLe.nil)))) ?_
        try simp only [RC]
        exact hN12 (_, x3_13, _) hq
    · rw [wp_region]
      simp only [RC, RL, RM, ↓evs_eq, unOp, wanted, aop, tkB, neD, Env.get, Env.put, Env.keep, putD, dstOk, ev, constV, nilSlice, V.demote, V.toOwn, V.cells, ty, R1.res, binOp, isShift, binOpT, isC, intOp, strOp, shiftOp, byteV, index, indexAddr, slice, bounds, hiB, loB, withB, maxV, minV, evs, pickV, lenV, builtin, initEnv, convert, K.isU8, strOf, load, store, fieldOf, append, room, fill, placeOf, splice, repl, chunks, Ty.val, Ty.agg, V.plain, H.row, H.ety, AObj.row, Nat.reduceAdd, ↓reduceIte, Nat.reduceEqDiff, Nat.reduceBEq, Nat.reduceBNe, Nat.reduceLT, Int.reduceToNat, Int.reduceEq, Int.reduceLT, Int.reduceLE, reduceCtorEq, Nat.reduceMul, Nat.reduceLeDiff]
      by_cases hc27 : (0 : Int) < x0_13
      · replace hq := (R.post_if hq).1 hc27
        simp only [decide_eq_true hc27, RC, RL, RM, ↓evs_eq, unOp, wanted, aop, tkB, neD, Env.get, Env.put, Env.keep, putD, dstOk, ev, constV, nilSlice, V.demote, V.toOwn, V.cells, ty, R1.res, binOp, isShift, binOpT, isC, intOp, strOp, shiftOp, byteV, index, indexAddr, slice, bounds, hiB, loB, withB, maxV, minV, evs, pickV, lenV, builtin, initEnv, convert, K.isU8, strOf, load, store, fieldOf, append, room, fill, placeOf, splice, repl, chunks, Ty.val, Ty.agg, V.plain, H.row, H.ety, AObj.row, Nat.reduceAdd, ↓reduceIte, Nat.reduceEqDiff, Nat.reduceBEq, Nat.reduceBNe, Nat.reduceLT, Int.reduceToNat, Int.reduceEq, Int.reduceLT, Int.reduceLE, reduceCtorEq, Nat.reduceMul, Nat.reduceLeDiff]
        exact hN26 true hq
      · replace hq := (R.post_if hq).2 hc27
        simp only [decide_eq_false hc27, RC, RL, RM, ↓evs_eq, unOp, wanted, aop, tkB, neD, Env.get, Env.put, Env.keep, putD, dstOk, ev, constV, nilSlice, V.demote, V.toOwn, V.cells, ty, R1.res, binOp, isShift, binOpT, isC, intOp, strOp, shiftOp, byteV, index, indexAddr, slice, bounds, hiB, loB, withB, maxV, minV, evs, pickV, lenV, builtin, initEnv, convert, K.isU8, strOf, load, store, fieldOf, append, room, fill, placeOf, splice, repl, chunks, Ty.val, Ty.agg, V.plain, H.row, H.ety, AObj.row, Nat.reduceAdd, ↓reduceIte, Nat.reduceEqDiff, Nat.reduceBEq, Nat.reduceBNe, Nat.reduceLT, Int.reduceToNat, Int.reduceEq, Int.reduceLT, Int.reduceLE, reduceCtorEq, Nat.reduceMul, Nat.reduceLeDiff]
        exact hN26 (decide (x3_13 = [])) hq
end Go.Proofs.Ytgbgnglngpbehaa.Pv
