/- Functions of the program, as plain Lean functions, and that the code comes to them: printed by gen.py. -/
import Derived.Test.YtgbgnglngpbehaaG10
set_option linter.unusedVariables false
set_option linter.unusedSimpArgs false
set_option maxHeartbeats 4000000
set_option maxRecDepth 10000
namespace Go.Proofs.Ytgbgnglngpbehaa.Pv
open Go Go.Proofs

def quote_Text_j0 (o0_0_301 : Bool) (o0_1_301 : List UInt8) : R ((List UInt8)) :=
  (strings_Builder_WriteByte o0_0_301 o0_1_301 (34 : UInt8)).sure.bind fun r305 => (strings_Builder_String r305.1 r305.2).sure.bind fun r309 => R.ok r309.1
def quote_Text_j2 (self_quote_Text_l1 : Int → Bool → List UInt8 → R (Bool × (List UInt8))) (x10_507 : Int) (o0_0_507 : Bool) (o0_1_507 : List UInt8) : R (Bool × (List UInt8)) :=
  self_quote_Text_l1 (IntKind.wrap .i64 (x10_507 + 1)) o0_0_507 o0_1_507
def quote_Text_l3 (x0 : List UInt8) (x10_409 : Int) : Nat → Int → Bool → List UInt8 → R (Bool × (List UInt8))
  | 0, _, _, _ => R.stuck
  | k + 1, x6_594, o0_0_594, o0_1_594 => if (0 : Int) ≤ x6_594 then (if 0 ≤ x6_594 then ((strings_Builder_WriteByte o0_0_594 o0_1_594 (u8 (IntKind.wrap .u8 (48 + ((u8 (bitsV .and .u8 ((u8 (Int.fdiv ((gt x0 x10_409).toNat : Int) (2 ^ (min (Int.toNat x6_594) 8)))).toNat : Int) 7)).toNat : Int))))).sure.bind fun r625 => quote_Text_l3 x0 x10_409 k (IntKind.wrap .i64 (x6_594 - 3)) r625.1 r625.2) else R.stuck) else (R.ok (o0_0_594, o0_1_594))
def quote_Text_l1 (x0 : List UInt8) : Nat → Int → Bool → List UInt8 → R (Bool × (List UInt8))
  | 0, _, _, _ => R.stuck
  | k + 1, x10_409, o0_0_409, o0_1_409 => if x10_409 < (List.length x0 : Int) then (if 0 ≤ x10_409 ∧ x10_409 < (List.length x0 : Int) then ((if ((gt x0 x10_409).toNat : Int) = 34 then (R.ok true) else (R.ok (decide (((gt x0 x10_409).toNat : Int) = 92)))).bind fun x25m514 => if x25m514 = true then ((strings_Builder_WriteByte o0_0_409 o0_1_409 (92 : UInt8)).sure.bind fun r523 => (strings_Builder_WriteByte r523.1 r523.2 (gt x0 x10_409)).sure.bind fun r527 => quote_Text_j2 (quote_Text_l1 x0 k) x10_409 r527.1 r527.2) else ((if ((gt x0 x10_409).toNat : Int) = 9 then (R.ok true) else (if ((gt x0 x10_409).toNat : Int) = 10 then (R.ok true) else (R.ok (decide (((gt x0 x10_409).toNat : Int) = 13))))).bind fun x35m534 => if x35m534 = true then ((strings_Builder_WriteByte o0_0_409 o0_1_409 (92 : UInt8)).sure.bind fun r544 => (strings_IndexByte ([7, 8, 12, 10, 13, 9, 11, 92, 39, 34, 63]) (gt x0 x10_409)).bind fun r552 => if 0 ≤ r552 ∧ r552 < (List.length ([97, 98, 102, 110, 114, 116, 118, 92, 39, 34, 63]) : Int) then ((strings_Builder_WriteByte r544.1 r544.2 (List.getD [97, 98, 102, 110, 114, 116, 118, 92, 39, 34, 63] (Int.toNat r552) 0)).sure.bind fun r554 => quote_Text_j2 (quote_Text_l1 x0 k) x10_409 r554.1 r554.2) else R.stuck) else ((if (32 : Int) ≤ ((gt x0 x10_409).toNat : Int) then (R.ok (decide (((gt x0 x10_409).toNat : Int) < 127))) else (R.ok false)).bind fun x51m562 => if x51m562 = true then ((strings_Builder_WriteByte o0_0_409 o0_1_409 (gt x0 x10_409)).sure.bind fun r571 => quote_Text_j2 (quote_Text_l1 x0 k) x10_409 r571.1 r571.2) else ((strings_Builder_WriteByte o0_0_409 o0_1_409 (92 : UInt8)).sure.bind fun r577 => (quote_Text_l3 x0 x10_409 Many 6 r577.1 r577.2).bind fun (o0_0p629, o0_1p629) => quote_Text_j2 (quote_Text_l1 x0 k) x10_409 o0_0p629 o0_1p629)))) else R.stuck) else (R.ok (o0_0_409, o0_1_409))
def quote_Text (x0 : List UInt8) : R ((List UInt8)) :=
  (strings_Builder_WriteByte false [] (34 : UInt8)).sure.bind fun r4 => (quote_Text_l1 x0 Many 0 r4.1 r4.2).bind fun (o0_0p633, o0_1p633) => quote_Text_j0 o0_0p633 o0_1p633
theorem quote_Text_call {h : H} {x0 : List UInt8} {Q : Out → H → Prop} {KK : ((List UInt8)) → Prop} {X : V → Prop} (hq : (quote_Text x0).post KK X) (hK : ∀ r, KK r → Q (.ret (.str r)) h) (hX : ∀ v, X v → V.Cl 0 v ∧ Q (.panic v) h) : CA qprim 17 [.sl 1 (List.map byteV x0)] h Q := by
  refine acalln hp Try.func17 rfl (by kernel_rfl) (n := 63) rfl (rs := [.tmp 2]) rfl [0, 2, 3, 5, 6, 8, 9, 10, 11, 16, 25, 35, 51] [] true (by simp) ?_
  unfold quote_Text at hq
  simp only [initEnv, List.map_cons, List.map_nil, List.getD_cons_zero, List.getD_cons_succ, List.getD_nil, V.demote]
  rw [wp_seq]
  rw [wp_region]
  simp only [RC, RL, RM, ↓evs_eq, unOp, wanted, aop, tkB, neD, Env.get, Env.put, Env.keep, putD, dstOk, ev, constV, nilSlice, V.demote, V.toOwn, V.cells, ty, R1.res, binOp, isShift, binOpT, isC, intOp, strOp, shiftOp, byteV, index, indexAddr, slice, bounds, hiB, loB, withB, maxV, minV, evs, pickV, lenV, builtin, initEnv, convert, K.isU8, strOf, load, store, fieldOf, append, room, fill, placeOf, splice, repl, chunks, Ty.val, Ty.agg, V.plain, H.row, H.ety, AObj.row, Nat.reduceAdd, ↓reduceIte, Nat.reduceEqDiff, Nat.reduceBEq, Nat.reduceBNe, Nat.reduceLT, Int.reduceToNat, Int.reduceEq, Int.reduceLT, Int.reduceLE, reduceCtorEq, Nat.reduceMul, Nat.reduceLeDiff]
  rw [wp_seq]
  rw [wp_region]
  simp only [RC, RL, RM, ↓evs_eq, unOp, wanted, aop, tkB, neD, Env.get, Env.put, Env.keep, putD, dstOk, ev, constV, nilSlice, V.demote, V.toOwn, V.cells, ty, R1.res, binOp, isShift, binOpT, isC, intOp, strOp, shiftOp, byteV, index, indexAddr, slice, bounds, hiB, loB, withB, maxV, minV, evs, pickV, lenV, builtin, initEnv, convert, K.isU8, strOf, load, store, fieldOf, append, room, fill, placeOf, splice, repl, chunks, Ty.val, Ty.agg, V.plain, H.row, H.ety, AObj.row, Nat.reduceAdd, ↓reduceIte, Nat.reduceEqDiff, Nat.reduceBEq, Nat.reduceBNe, Nat.reduceLT, Int.reduceToNat, Int.reduceEq, Int.reduceLT, Int.reduceLE, reduceCtorEq, Nat.reduceMul, Nat.reduceLeDiff]
  rw [wp_seq]
  rw [wp_region]
  simp only [RC, RL, RM, ↓evs_eq, unOp, wanted, aop, tkB, neD, Env.get, Env.put, Env.keep, putD, dstOk, ev, constV, nilSlice, V.demote, V.toOwn, V.cells, ty, R1.res, binOp, isShift, binOpT, isC, intOp, strOp, shiftOp, byteV, index, indexAddr, slice, bounds, hiB, loB, withB, maxV, minV, evs, pickV, lenV, builtin, initEnv, convert, K.isU8, strOf, load, store, fieldOf, append, room, fill, placeOf, splice, repl, chunks, Ty.val, Ty.agg, V.plain, H.row, H.ety, AObj.row, Nat.reduceAdd, ↓reduceIte, Nat.reduceEqDiff, Nat.reduceBEq, Nat.reduceBNe, Nat.reduceLT, Int.reduceToNat, Int.reduceEq, Int.reduceLT, Int.reduceLE, reduceCtorEq, Nat.reduceMul, Nat.reduceLeDiff]
  obtain ⟨K634, hK635, hq⟩ := R.post_cut_sure hq
  refine strings_Builder_WriteByte_call (o0_0 := false) (o0_1 := []) (x1 := (34 : UInt8)) (id0 := h.length) (by simp only [RC, RL, RM, ↓evs_eq, unOp, wanted, aop, tkB, neD, Env.get, Env.put, Env.keep, putD, dstOk, ev, constV, nilSlice, V.demote, V.toOwn, V.cells, ty, R1.res, binOp, isShift, binOpT, isC, intOp, strOp, shiftOp, byteV, index, indexAddr, slice, bounds, hiB, loB, withB, maxV, minV, evs, pickV, lenV, builtin, initEnv, convert, K.isU8, strOf, load, store, fieldOf, append, room, fill, placeOf, splice, repl, chunks, Ty.val, Ty.agg, V.plain, H.row, H.ety, AObj.row, Nat.reduceAdd, ↓reduceIte, Nat.reduceEqDiff, Nat.reduceBEq, Nat.reduceBNe, Nat.reduceLT, Int.reduceToNat, Int.reduceEq, Int.reduceLT, Int.reduceLE, reduceCtorEq, Nat.reduceMul, Nat.reduceLeDiff] <;> rfl) hq (fun r4 hq => ?_) (fun v hv => hv.elim)
  replace hq := hK635 _ hq
  simp only [RC, RL, RM, ↓evs_eq, unOp, wanted, aop, tkB, neD, Env.get, Env.put, Env.keep, putD, dstOk, ev, constV, nilSlice, V.demote, V.toOwn, V.cells, ty, R1.res, binOp, isShift, binOpT, isC, intOp, strOp, shiftOp, byteV, index, indexAddr, slice, bounds, hiB, loB, withB, maxV, minV, evs, pickV, lenV, builtin, initEnv, convert, K.isU8, strOf, load, store, fieldOf, append, room, fill, placeOf, splice, repl, chunks, Ty.val, Ty.agg, V.plain, H.row, H.ety, AObj.row, Nat.reduceAdd, ↓reduceIte, Nat.reduceEqDiff, Nat.reduceBEq, Nat.reduceBNe, Nat.reduceLT, Int.reduceToNat, Int.reduceEq, Int.reduceLT, Int.reduceLE, reduceCtorEq, Nat.reduceMul, Nat.reduceLeDiff]
  refine seq_gen (acall_mono hp) (σ := V × V × V × V × V × V × V × V × V × V × Bool × (List UInt8)) (fun s => [(0, .sl 1 (List.map byteV x0)), (2, .str []), (3, .ref h.length 0), (5, s.1), (6, s.2.1), (8, s.2.2.1), (9, s.2.2.2.1), (10, s.2.2.2.2.1), (11, s.2.2.2.2.2.1), (16, s.2.2.2.2.2.2.1), (25, s.2.2.2.2.2.2.2.1), (35, s.2.2.2.2.2.2.2.2.1), (51, s.2.2.2.2.2.2.2.2.2.1)]) (fun s => h ++ [.cells 46 [selfp h.length s.2.2.2.2.2.2.2.2.2.2.1, .own 5 1 (List.map byteV s.2.2.2.2.2.2.2.2.2.2.2)]]) (fun s => (quote_Text_j0 s.2.2.2.2.2.2.2.2.2.2.1 s.2.2.2.2.2.2.2.2.2.2.2).post KK X) (fun s hq => ?_) (fun N hN314 => ?_)
  · obtain ⟨y5_301, y6_301, y8_301, y9_301, y10_301, y11_301, y16_301, y25_301, y35_301, y51_301, o0_0_301, o0_1_301⟩ := s
    try dsimp only at hq ⊢
    unfold quote_Text_j0 at hq
    rw [wp_seq]
    rw [wp_region]
    simp only [RC, RL, RM, ↓evs_eq, unOp, wanted, aop, tkB, neD, Env.get, Env.put, Env.keep, putD, dstOk, ev, constV, nilSlice, V.demote, V.toOwn, V.cells, ty, R1.res, binOp, isShift, binOpT, isC, intOp, strOp, shiftOp, byteV, index, indexAddr, slice, bounds, hiB, loB, withB, maxV, minV, evs, pickV, lenV, builtin, initEnv, convert, K.isU8, strOf, load, store, fieldOf, append, room, fill, placeOf, splice, repl, chunks, Ty.val, Ty.agg, V.plain, H.row, H.ety, AObj.row, Nat.reduceAdd, ↓reduceIte, Nat.reduceEqDiff, Nat.reduceBEq, Nat.reduceBNe, Nat.reduceLT, Int.reduceToNat, Int.reduceEq, Int.reduceLT, Int.reduceLE, reduceCtorEq, Nat.reduceMul, Nat.reduceLeDiff]
    obtain ⟨K312, hK313, hq⟩ := R.post_cut_sure hq
    refine strings_Builder_WriteByte_call (o0_0 := o0_0_301) (o0_1 := o0_1_301) (x1 := (34 : UInt8)) (id0 := h.length) (by simp only [RC, RL, RM, ↓evs_eq, unOp, wanted, aop, tkB, neD, Env.get, Env.put, Env.keep, putD, dstOk, ev, constV, nilSlice, V.demote, V.toOwn, V.cells, ty, R1.res, binOp, isShift, binOpT, isC, intOp, strOp, shiftOp, byteV, index, indexAddr, slice, bounds, hiB, loB, withB, maxV, minV, evs, pickV, lenV, builtin, initEnv, convert, K.isU8, strOf, load, store, fieldOf, append, room, fill, placeOf, splice, repl, chunks, Ty.val, Ty.agg, V.plain, H.row, H.ety, AObj.row, Nat.reduceAdd, ↓reduceIte, Nat.reduceEqDiff, Nat.reduceBEq, Nat.reduceBNe, Nat.reduceLT, Int.reduceToNat, Int.reduceEq, Int.reduceLT, Int.reduceLE, reduceCtorEq, Nat.reduceMul, Nat.reduceLeDiff] <;> rfl) hq (fun r305 hq => ?_) (fun v hv => hv.elim)
    replace hq := hK313 _ hq
    simp only [RC, RL, RM, ↓evs_eq, unOp, wanted, aop, tkB, neD, Env.get, Env.put, Env.keep, putD, dstOk, ev, constV, nilSlice, V.demote, V.toOwn, V.cells, ty, R1.res, binOp, isShift, binOpT, isC, intOp, strOp, shiftOp, byteV, index, indexAddr, slice, bounds, hiB, loB, withB, maxV, minV, evs, pickV, lenV, builtin, initEnv, convert, K.isU8, strOf, load, store, fieldOf, append, room, fill, placeOf, splice, repl, chunks, Ty.val, Ty.agg, V.plain, H.row, H.ety, AObj.row, Nat.reduceAdd, ↓reduceIte, Nat.reduceEqDiff, Nat.reduceBEq, Nat.reduceBNe, Nat.reduceLT, Int.reduceToNat, Int.reduceEq, Int.reduceLT, Int.reduceLE, reduceCtorEq, Nat.reduceMul, Nat.reduceLeDiff]
    rw [wp_seq]
    rw [wp_region]
    simp only [RC, RL, RM, ↓evs_eq, unOp, wanted, aop, tkB, neD, Env.get, Env.put, Env.keep, putD, dstOk, ev, constV, nilSlice, V.demote, V.toOwn, V.cells, ty, R1.res, binOp, isShift, binOpT, isC, intOp, strOp, shiftOp, byteV, index, indexAddr, slice, bounds, hiB, loB, withB, maxV, minV, evs, pickV, lenV, builtin, initEnv, convert, K.isU8, strOf, load, store, fieldOf, append, room, fill, placeOf, splice, repl, chunks, Ty.val, Ty.agg, V.plain, H.row, H.ety, AObj.row, Nat.reduceAdd, ↓reduceIte, Nat.reduceEqDiff, Nat.reduceBEq, Nat.reduceBNe, Nat.reduceLT, Int.reduceToNat, Int.reduceEq, Int.reduceLT, Int.reduceLE, reduceCtorEq, Nat.reduceMul, Nat.reduceLeDiff]
    obtain ⟨K310, hK311, hq⟩ := R.post_cut_sure hq
    refine strings_Builder_String_call (o0_0 := r305.1) (o0_1 := r305.2) (id0 := h.length) (by simp only [RC, RL, RM, ↓evs_eq, unOp, wanted, aop, tkB, neD, Env.get, Env.put, Env.keep, putD, dstOk, ev, constV, nilSlice, V.demote, V.toOwn, V.cells, ty, R1.res, binOp, isShift, binOpT, isC, intOp, strOp, shiftOp, byteV, index, indexAddr, slice, bounds, hiB, loB, withB, maxV, minV, evs, pickV, lenV, builtin, initEnv, convert, K.isU8, strOf, load, store, fieldOf, append, room, fill, placeOf, splice, repl, chunks, Ty.val, Ty.agg, V.plain, H.row, H.ety, AObj.row, Nat.reduceAdd, ↓reduceIte, Nat.reduceEqDiff, Nat.reduceBEq, Nat.reduceBNe, Nat.reduceLT, Int.reduceToNat, Int.reduceEq, Int.reduceLT, Int.reduceLE, reduceCtorEq, Nat.reduceMul, Nat.reduceLeDiff] <;> rfl) hq (fun r309 hq => ?_) (fun v hv => hv.elim)
    replace hq := hK311 _ hq
    simp only [RC, RL, RM, ↓evs_eq, unOp, wanted, aop, tkB, neD, Env.get, Env.put, Env.keep, putD, dstOk, ev, constV, nilSlice, V.demote, V.toOwn, V.cells, ty, R1.res, binOp, isShift, binOpT, isC, intOp, strOp, shiftOp, byteV, index, indexAddr, slice, bounds, hiB, loB, withB, maxV, minV, evs, pickV, lenV, builtin, initEnv, convert, K.isU8, strOf, load, store, fieldOf, append, room, fill, placeOf, splice, repl, chunks, Ty.val, Ty.agg, V.plain, H.row, H.ety, AObj.row, Nat.reduceAdd, ↓reduceIte, Nat.reduceEqDiff, Nat.reduceBEq, Nat.reduceBNe, Nat.reduceLT, Int.reduceToNat, Int.reduceEq, Int.reduceLT, Int.reduceLE, reduceCtorEq, Nat.reduceMul, Nat.reduceLeDiff]
    rw [wp_ret]
    simp only [retQ, results, resultAll, resultOne, Nat.zero_add, RC, RL, RM, ↓evs_eq, unOp, wanted, aop, tkB, neD, Env.get, Env.put, Env.keep, putD, dstOk, ev, constV, nilSlice, V.demote, V.toOwn, V.cells, ty, R1.res, binOp, isShift, binOpT, isC, intOp, strOp, shiftOp, byteV, index, indexAddr, slice, bounds, hiB, loB, withB, maxV, minV, evs, pickV, lenV, builtin, initEnv, convert, K.isU8, strOf, load, store, fieldOf, append, room, fill, placeOf, splice, repl, chunks, Ty.val, Ty.agg, V.plain, H.row, H.ety, AObj.row, Nat.reduceAdd, ↓reduceIte, Nat.reduceEqDiff, Nat.reduceBEq, Nat.reduceBNe, Nat.reduceLT, Int.reduceToNat, Int.reduceEq, Int.reduceLT, Int.reduceLE, reduceCtorEq, Nat.reduceMul, Nat.reduceLeDiff]
    refine ⟨_, (.refl _), ?_⟩
    refine leave_ok rfl (.str _) ?_
    exact hK _ hq
  · rw [wp_seq]
    rw [wp_region]
    simp only [RC, RL, RM, ↓evs_eq, unOp, wanted, aop, tkB, neD, Env.get, Env.put, Env.keep, putD, dstOk, ev, constV, nilSlice, V.demote, V.toOwn, V.cells, ty, R1.res, binOp, isShift, binOpT, isC, intOp, strOp, shiftOp, byteV, index, indexAddr, slice, bounds, hiB, loB, withB, maxV, minV, evs, pickV, lenV, builtin, initEnv, convert, K.isU8, strOf, load, store, fieldOf, append, room, fill, placeOf, splice, repl, chunks, Ty.val, Ty.agg, V.plain, H.row, H.ety, AObj.row, Nat.reduceAdd, ↓reduceIte, Nat.reduceEqDiff, Nat.reduceBEq, Nat.reduceBNe, Nat.reduceLT, Int.reduceToNat, Int.reduceEq, Int.reduceLT, Int.reduceLE, reduceCtorEq, Nat.reduceMul, Nat.reduceLeDiff]
    rw [wp_block]
    refine loop_in ?_
    refine Wk.same ?_
    obtain ⟨K503, hK504, hq⟩ := R.post_cut hq
    refine loop_gen (acall_mono hp) (σ := V × V × Int × V × V × V × V × V × Bool × (List UInt8)) (fun s => [(0, .sl 1 (List.map byteV x0)), (2, .str []), (3, .ref h.length 0), (5, s.1), (6, s.2.1), (8, .sl 1 (List.map byteV x0)), (9, .int .i64 (List.length x0 : Int)), (10, .int .i64 s.2.2.1), (11, s.2.2.2.1), (16, s.2.2.2.2.1), (25, s.2.2.2.2.2.1), (35, s.2.2.2.2.2.2.1), (51, s.2.2.2.2.2.2.2.1)]) (fun s => h ++ [.cells 46 [selfp h.length s.2.2.2.2.2.2.2.2.1, .own 5 1 (List.map byteV s.2.2.2.2.2.2.2.2.2)]]) (fun k s => (quote_Text_l1 x0 k s.2.2.1 s.2.2.2.2.2.2.2.2.1 s.2.2.2.2.2.2.2.2.2).post K503 X) (fun s hs => hs) (fun k632 s hq N hN505 => ?_) _ (_, _, 0, _, _, _, _, _, r4.1, r4.2) hq
    obtain ⟨y5_409, y6_409, x10_409, y11_409, y16_409, y25_409, y35_409, y51_409, o0_0_409, o0_1_409⟩ := s
    try dsimp only at hq ⊢
    rw [quote_Text_l1] at hq
    rw [wp_seq]
    rw [wp_region]
    simp only [RC, RL, RM, ↓evs_eq, unOp, wanted, aop, tkB, neD, Env.get, Env.put, Env.keep, putD, dstOk, ev, constV, nilSlice, V.demote, V.toOwn, V.cells, ty, R1.res, binOp, isShift, binOpT, isC, intOp, strOp, shiftOp, byteV, index, indexAddr, slice, bounds, hiB, loB, withB, maxV, minV, evs, pickV, lenV, builtin, initEnv, convert, K.isU8, strOf, load, store, fieldOf, append, room, fill, placeOf, splice, repl, chunks, Ty.val, Ty.agg, V.plain, H.row, H.ety, AObj.row, Nat.reduceAdd, ↓reduceIte, Nat.reduceEqDiff, Nat.reduceBEq, Nat.reduceBNe, Nat.reduceLT, Int.reduceToNat, Int.reduceEq, Int.reduceLT, Int.reduceLE, reduceCtorEq, Nat.reduceMul, Nat.reduceLeDiff]
    rw [wp_seq]
    rw [wp_cond]
    simp only [RC, RL, RM, ↓evs_eq, unOp, wanted, aop, tkB, neD, Env.get, Env.put, Env.keep, putD, dstOk, ev, constV, nilSlice, V.demote, V.toOwn, V.cells, ty, R1.res, binOp, isShift, binOpT, isC, intOp, strOp, shiftOp, byteV, index, indexAddr, slice, bounds, hiB, loB, withB, maxV, minV, evs, pickV, lenV, builtin, initEnv, convert, K.isU8, strOf, load, store, fieldOf, append, room, fill, placeOf, splice, repl, chunks, Ty.val, Ty.agg, V.plain, H.row, H.ety, AObj.row, Nat.reduceAdd, ↓reduceIte, Nat.reduceEqDiff, Nat.reduceBEq, Nat.reduceBNe, Nat.reduceLT, Int.reduceToNat, Int.reduceEq, Int.reduceLT, Int.reduceLE, reduceCtorEq, Nat.reduceMul, Nat.reduceLeDiff]
    by_cases hc506 : x10_409 < (List.length x0 : Int)
    · replace hq := (R.post_if hq).1 hc506
      refine condK_t (congrArg V.bool (decide_eq_true hc506)) ?_
      try simp only [wp_skip, RC]
      refine Wk.same ?_
      try simp only [RC]
      refine seq_gen (acall_mono hp) (σ := V × V × Int × V × V × V × V × V × Bool × (List UInt8)) (fun s => [(0, .sl 1 (List.map byteV x0)), (2, .str []), (3, .ref h.length 0), (5, s.1), (6, s.2.1), (8, .sl 1 (List.map byteV x0)), (9, .int .i64 (List.length x0 : Int)), (10, .int .i64 s.2.2.1), (11, s.2.2.2.1), (16, s.2.2.2.2.1), (25, s.2.2.2.2.2.1), (35, s.2.2.2.2.2.2.1), (51, s.2.2.2.2.2.2.2.1)]) (fun s => h ++ [.cells 46 [selfp h.length s.2.2.2.2.2.2.2.2.1, .own 5 1 (List.map byteV s.2.2.2.2.2.2.2.2.2)]]) (fun s => (quote_Text_j2 (quote_Text_l1 x0 k632) s.2.2.1 s.2.2.2.2.2.2.2.2.1 s.2.2.2.2.2.2.2.2.2).post K503 X) (fun s hq => ?_) (fun N hN508 => ?_)
      · obtain ⟨y5_507, y6_507, x10_507, y11_507, y16_507, y25_507, y35_507, y51_507, o0_0_507, o0_1_507⟩ := s
        try dsimp only at hq ⊢
        unfold quote_Text_j2 at hq
        rw [wp_region]
        simp only [RC, RL, RM, ↓evs_eq, unOp, wanted, aop, tkB, neD, Env.get, Env.put, Env.keep, putD, dstOk, ev, constV, nilSlice, V.demote, V.toOwn, V.cells, ty, R1.res, binOp, isShift, binOpT, isC, intOp, strOp, shiftOp, byteV, index, indexAddr, slice, bounds, hiB, loB, withB, maxV, minV, evs, pickV, lenV, builtin, initEnv, convert, K.isU8, strOf, load, store, fieldOf, append, room, fill, placeOf, splice, repl, chunks, Ty.val, Ty.agg, V.plain, H.row, H.ety, AObj.row, Nat.reduceAdd, ↓reduceIte, Nat.reduceEqDiff, Nat.reduceBEq, Nat.reduceBNe, Nat.reduceLT, Int.reduceToNat, Int.reduceEq, Int.reduceLT, Int.reduceLE, reduceCtorEq, Nat.reduceMul, Nat.reduceLeDiff]
        refine Wk.same ?_
        exact hN505 (_, _, (IntKind.wrap .i64 (x10_507 + 1)), _, _, _, _, _, o0_0_507, o0_1_507) hq
      · rw [wp_block]
        rw [wp_seq]
        rw [wp_region]
        obtain ⟨g511, hq⟩ := R.guard hq
        have e512 := map_gt (f := byteV) (l := x0) (i := x10_409) g511
        simp only [e512, RC, RL, RM, ↓evs_eq, unOp, wanted, aop, tkB, neD, Env.get, Env.put, Env.keep, putD, dstOk, ev, constV, nilSlice, V.demote, V.toOwn, V.cells, ty, R1.res, binOp, isShift, binOpT, isC, intOp, strOp, shiftOp, byteV, index, indexAddr, slice, bounds, hiB, loB, withB, maxV, minV, evs, pickV, lenV, builtin, initEnv, convert, K.isU8, strOf, load, store, fieldOf, append, room, fill, placeOf, splice, repl, chunks, Ty.val, Ty.agg, V.plain, H.row, H.ety, AObj.row, Nat.reduceAdd, ↓reduceIte, Nat.reduceEqDiff, Nat.reduceBEq, Nat.reduceBNe, Nat.reduceLT, Int.reduceToNat, Int.reduceEq, Int.reduceLT, Int.reduceLE, reduceCtorEq, Nat.reduceMul, Nat.reduceLeDiff]
        repeat (with_reducible refine And.intro (by omega) ?_)
        rw [wp_block]
        obtain ⟨K515, hK516, hq⟩ := R.post_cut hq
        refine seq_gen (acall_mono hp) (σ := Bool) (fun s => [(0, .sl 1 (List.map byteV x0)), (2, .str []), (3, .ref h.length 0), (5, .int .u8 ((gt x0 x10_409).toNat : Int)), (6, y6_409), (8, .sl 1 (List.map byteV x0)), (9, .int .i64 (List.length x0 : Int)), (10, .int .i64 x10_409), (11, .bool (decide (x10_409 < (List.length x0 : Int)))), (16, y16_409), (25, .bool s), (35, y35_409), (51, y51_409)]) (fun s => h ++ [.cells 46 [selfp h.length o0_0_409, .own 5 1 (List.map byteV o0_1_409)]]) (fun s => K515 s) (fun x25m514 hq => ?_) (fun N hN517 => ?_)
        · replace hq := hK516 _ hq
          try dsimp only at hq ⊢
          rw [wp_cond]
          simp only [RC, RL, RM, ↓evs_eq, unOp, wanted, aop, tkB, neD, Env.get, Env.put, Env.keep, putD, dstOk, ev, constV, nilSlice, V.demote, V.toOwn, V.cells, ty, R1.res, binOp, isShift, binOpT, isC, intOp, strOp, shiftOp, byteV, index, indexAddr, slice, bounds, hiB, loB, withB, maxV, minV, evs, pickV, lenV, builtin, initEnv, convert, K.isU8, strOf, load, store, fieldOf, append, room, fill, placeOf, splice, repl, chunks, Ty.val, Ty.agg, V.plain, H.row, H.ety, AObj.row, Nat.reduceAdd, ↓reduceIte, Nat.reduceEqDiff, Nat.reduceBEq, Nat.reduceBNe, Nat.reduceLT, Int.reduceToNat, Int.reduceEq, Int.reduceLT, Int.reduceLE, reduceCtorEq, Nat.reduceMul, Nat.reduceLeDiff]
          by_cases hc519 : x25m514 = true
          · replace hq := (R.post_if hq).1 hc519
            refine condK_t (congrArg V.bool (hc519)) ?_
            rw [wp_seq]
            rw [wp_region]
            simp only [RC, RL, RM, ↓evs_eq, unOp, wanted, aop, tkB, neD, Env.get, Env.put, Env.keep, putD, dstOk, ev, constV, nilSlice, V.demote, V.toOwn, V.cells, ty, R1.res, binOp, isShift, binOpT, isC, intOp, strOp, shiftOp, byteV, index, indexAddr, slice, bounds, hiB, loB, withB, maxV, minV, evs, pickV, lenV, builtin, initEnv, convert, K.isU8, strOf, load, store, fieldOf, append, room, fill, placeOf, splice, repl, chunks, Ty.val, Ty.agg, V.plain, H.row, H.ety, AObj.row, Nat.reduceAdd, ↓reduceIte, Nat.reduceEqDiff, Nat.reduceBEq, Nat.reduceBNe, Nat.reduceLT, Int.reduceToNat, Int.reduceEq, Int.reduceLT, Int.reduceLE, reduceCtorEq, Nat.reduceMul, Nat.reduceLeDiff]
            obtain ⟨K530, hK531, hq⟩ := R.post_cut_sure hq
            refine strings_Builder_WriteByte_call (o0_0 := o0_0_409) (o0_1 := o0_1_409) (x1 := (92 : UInt8)) (id0 := h.length) (by simp only [RC, RL, RM, ↓evs_eq, unOp, wanted, aop, tkB, neD, Env.get, Env.put, Env.keep, putD, dstOk, ev, constV, nilSlice, V.demote, V.toOwn, V.cells, ty, R1.res, binOp, isShift, binOpT, isC, intOp, strOp, shiftOp, byteV, index, indexAddr, slice, bounds, hiB, loB, withB, maxV, minV, evs, pickV, lenV, builtin, initEnv, convert, K.isU8, strOf, load, store, fieldOf, append, room, fill, placeOf, splice, repl, chunks, Ty.val, Ty.agg, V.plain, H.row, H.ety, AObj.row, Nat.reduceAdd, ↓reduceIte, Nat.reduceEqDiff, Nat.reduceBEq, Nat.reduceBNe, Nat.reduceLT, Int.reduceToNat, Int.reduceEq, Int.reduceLT, Int.reduceLE, reduceCtorEq, Nat.reduceMul, Nat.reduceLeDiff] <;> rfl) hq (fun r523 hq => ?_) (fun v hv => hv.elim)
            replace hq := hK531 _ hq
            simp only [RC, RL, RM, ↓evs_eq, unOp, wanted, aop, tkB, neD, Env.get, Env.put, Env.keep, putD, dstOk, ev, constV, nilSlice, V.demote, V.toOwn, V.cells, ty, R1.res, binOp, isShift, binOpT, isC, intOp, strOp, shiftOp, byteV, index, indexAddr, slice, bounds, hiB, loB, withB, maxV, minV, evs, pickV, lenV, builtin, initEnv, convert, K.isU8, strOf, load, store, fieldOf, append, room, fill, placeOf, splice, repl, chunks, Ty.val, Ty.agg, V.plain, H.row, H.ety, AObj.row, Nat.reduceAdd, ↓reduceIte, Nat.reduceEqDiff, Nat.reduceBEq, Nat.reduceBNe, Nat.reduceLT, Int.reduceToNat, Int.reduceEq, Int.reduceLT, Int.reduceLE, reduceCtorEq, Nat.reduceMul, Nat.reduceLeDiff]
            rw [wp_region]
            simp only [RC, RL, RM, ↓evs_eq, unOp, wanted, aop, tkB, neD, Env.get, Env.put, Env.keep, putD, dstOk, ev, constV, nilSlice, V.demote, V.toOwn, V.cells, ty, R1.res, binOp, isShift, binOpT, isC, intOp, strOp, shiftOp, byteV, index, indexAddr, slice, bounds, hiB, loB, withB, maxV, minV, evs, pickV, lenV, builtin, initEnv, convert, K.isU8, strOf, load, store, fieldOf, append, room, fill, placeOf, splice, repl, chunks, Ty.val, Ty.agg, V.plain, H.row, H.ety, AObj.row, Nat.reduceAdd, ↓reduceIte, Nat.reduceEqDiff, Nat.reduceBEq, Nat.reduceBNe, Nat.reduceLT, Int.reduceToNat, Int.reduceEq, Int.reduceLT, Int.reduceLE, reduceCtorEq, Nat.reduceMul, Nat.reduceLeDiff]
            obtain ⟨K528, hK529, hq⟩ := R.post_cut_sure hq
            refine strings_Builder_WriteByte_call (o0_0 := r523.1) (o0_1 := r523.2) (x1 := (gt x0 x10_409)) (id0 := h.length) (by simp only [RC, RL, RM, ↓evs_eq, unOp, wanted, aop, tkB, neD, Env.get, Env.put, Env.keep, putD, dstOk, ev, constV, nilSlice, V.demote, V.toOwn, V.cells, ty, R1.res, binOp, isShift, binOpT, isC, intOp, strOp, shiftOp, byteV, index, indexAddr, slice, bounds, hiB, loB, withB, maxV, minV, evs, pickV, lenV, builtin, initEnv, convert, K.isU8, strOf, load, store, fieldOf, append, room, fill, placeOf, splice, repl, chunks, Ty.val, Ty.agg, V.plain, H.row, H.ety, AObj.row, Nat.reduceAdd, ↓reduceIte, Nat.reduceEqDiff, Nat.reduceBEq, Nat.reduceBNe, Nat.reduceLT, Int.reduceToNat, Int.reduceEq, Int.reduceLT, Int.reduceLE, reduceCtorEq, Nat.reduceMul, Nat.reduceLeDiff] <;> rfl) hq (fun r527 hq => ?_) (fun v hv => hv.elim)
            replace hq := hK529 _ hq
            simp only [RC, RL, RM, ↓evs_eq, unOp, wanted, aop, tkB, neD, Env.get, Env.put, Env.keep, putD, dstOk, ev, constV, nilSlice, V.demote, V.toOwn, V.cells, ty, R1.res, binOp, isShift, binOpT, isC, intOp, strOp, shiftOp, byteV, index, indexAddr, slice, bounds, hiB, loB, withB, maxV, minV, evs, pickV, lenV, builtin, initEnv, convert, K.isU8, strOf, load, store, fieldOf, append, room, fill, placeOf, splice, repl, chunks, Ty.val, Ty.agg, V.plain, H.row, H.ety, AObj.row, Nat.reduceAdd, ↓reduceIte, Nat.reduceEqDiff, Nat.reduceBEq, Nat.reduceBNe, Nat.reduceLT, Int.reduceToNat, Int.reduceEq, Int.reduceLT, Int.reduceLE, reduceCtorEq, Nat.reduceMul, Nat.reduceLeDiff]
            refine Wk.le (EnvLe.cons (.refl _) (EnvLe.cons (.refl _) (EnvLe.cons (.refl _) (EnvLe.cons (.top _) (EnvLe.cons (.refl _) (EnvLe.cons (.refl _) (EnvLe.cons (.refl _) (EnvLe.cons (.refl _) (EnvLe.cons (.top _) (EnvLe.cons (.refl _) (EnvLe.cons (.top _) (EnvLe.cons (.refl _) (EnvLe.cons (.refl _) EnvLe.nil))))))))))))) ?_
            try simp only [RC]
            refine Wk.same ?_
            try simp only [RC]
            refine Wk.same ?_
            try simp only [RC]
            exact hN508 (_, _, x10_409, _, _, _, _, _, r527.1, r527.2) hq
          · replace hq := (R.post_if hq).2 hc519
            replace hc519 := eq_false_of_ne_true hc519
            refine condK_f (congrArg V.bool (hc519)) ?_
            obtain ⟨K535, hK536, hq⟩ := R.post_cut hq
            refine seq_gen (acall_mono hp) (σ := Bool) (fun s => [(0, .sl 1 (List.map byteV x0)), (2, .str []), (3, .ref h.length 0), (5, .int .u8 ((gt x0 x10_409).toNat : Int)), (6, y6_409), (8, .sl 1 (List.map byteV x0)), (9, .int .i64 (List.length x0 : Int)), (10, .int .i64 x10_409), (11, .bool (decide (x10_409 < (List.length x0 : Int)))), (16, y16_409), (25, .bool x25m514), (35, .bool s), (51, y51_409)]) (fun s => h ++ [.cells 46 [selfp h.length o0_0_409, .own 5 1 (List.map byteV o0_1_409)]]) (fun s => K535 s) (fun x35m534 hq => ?_) (fun N hN537 => ?_)
            · replace hq := hK536 _ hq
              try dsimp only at hq ⊢
              rw [wp_cond]
              simp only [RC, RL, RM, ↓evs_eq, unOp, wanted, aop, tkB, neD, Env.get, Env.put, Env.keep, putD, dstOk, ev, constV, nilSlice, V.demote, V.toOwn, V.cells, ty, R1.res, binOp, isShift, binOpT, isC, intOp, strOp, shiftOp, byteV, index, indexAddr, slice, bounds, hiB, loB, withB, maxV, minV, evs, pickV, lenV, builtin, initEnv, convert, K.isU8, strOf, load, store, fieldOf, append, room, fill, placeOf, splice, repl, chunks, Ty.val, Ty.agg, V.plain, H.row, H.ety, AObj.row, Nat.reduceAdd, ↓reduceIte, Nat.reduceEqDiff, Nat.reduceBEq, Nat.reduceBNe, Nat.reduceLT, Int.reduceToNat, Int.reduceEq, Int.reduceLT, Int.reduceLE, reduceCtorEq, Nat.reduceMul, Nat.reduceLeDiff]
              by_cases hc540 : x35m534 = true
              · replace hq := (R.post_if hq).1 hc540
                refine condK_t (congrArg V.bool (hc540)) ?_
                rw [wp_seq]
                rw [wp_region]
                simp only [RC, RL, RM, ↓evs_eq, unOp, wanted, aop, tkB, neD, Env.get, Env.put, Env.keep, putD, dstOk, ev, constV, nilSlice, V.demote, V.toOwn, V.cells, ty, R1.res, binOp, isShift, binOpT, isC, intOp, strOp, shiftOp, byteV, index, indexAddr, slice, bounds, hiB, loB, withB, maxV, minV, evs, pickV, lenV, builtin, initEnv, convert, K.isU8, strOf, load, store, fieldOf, append, room, fill, placeOf, splice, repl, chunks, Ty.val, Ty.agg, V.plain, H.row, H.ety, AObj.row, Nat.reduceAdd, ↓reduceIte, Nat.reduceEqDiff, Nat.reduceBEq, Nat.reduceBNe, Nat.reduceLT, Int.reduceToNat, Int.reduceEq, Int.reduceLT, Int.reduceLE, reduceCtorEq, Nat.reduceMul, Nat.reduceLeDiff]
                obtain ⟨K559, hK560, hq⟩ := R.post_cut_sure hq
                refine strings_Builder_WriteByte_call (o0_0 := o0_0_409) (o0_1 := o0_1_409) (x1 := (92 : UInt8)) (id0 := h.length) (by simp only [RC, RL, RM, ↓evs_eq, unOp, wanted, aop, tkB, neD, Env.get, Env.put, Env.keep, putD, dstOk, ev, constV, nilSlice, V.demote, V.toOwn, V.cells, ty, R1.res, binOp, isShift, binOpT, isC, intOp, strOp, shiftOp, byteV, index, indexAddr, slice, bounds, hiB, loB, withB, maxV, minV, evs, pickV, lenV, builtin, initEnv, convert, K.isU8, strOf, load, store, fieldOf, append, room, fill, placeOf, splice, repl, chunks, Ty.val, Ty.agg, V.plain, H.row, H.ety, AObj.row, Nat.reduceAdd, ↓reduceIte, Nat.reduceEqDiff, Nat.reduceBEq, Nat.reduceBNe, Nat.reduceLT, Int.reduceToNat, Int.reduceEq, Int.reduceLT, Int.reduceLE, reduceCtorEq, Nat.reduceMul, Nat.reduceLeDiff] <;> rfl) hq (fun r544 hq => ?_) (fun v hv => hv.elim)
                replace hq := hK560 _ hq
                simp only [RC, RL, RM, ↓evs_eq, unOp, wanted, aop, tkB, neD, Env.get, Env.put, Env.keep, putD, dstOk, ev, constV, nilSlice, V.demote, V.toOwn, V.cells, ty, R1.res, binOp, isShift, binOpT, isC, intOp, strOp, shiftOp, byteV, index, indexAddr, slice, bounds, hiB, loB, withB, maxV, minV, evs, pickV, lenV, builtin, initEnv, convert, K.isU8, strOf, load, store, fieldOf, append, room, fill, placeOf, splice, repl, chunks, Ty.val, Ty.agg, V.plain, H.row, H.ety, AObj.row, Nat.reduceAdd, ↓reduceIte, Nat.reduceEqDiff, Nat.reduceBEq, Nat.reduceBNe, Nat.reduceLT, Int.reduceToNat, Int.reduceEq, Int.reduceLT, Int.reduceLE, reduceCtorEq, Nat.reduceMul, Nat.reduceLeDiff]
                rw [wp_region]
                simp only [RC, RL, RM, ↓evs_eq, unOp, wanted, aop, tkB, neD, Env.get, Env.put, Env.keep, putD, dstOk, ev, constV, nilSlice, V.demote, V.toOwn, V.cells, ty, R1.res, binOp, isShift, binOpT, isC, intOp, strOp, shiftOp, byteV, index, indexAddr, slice, bounds, hiB, loB, withB, maxV, minV, evs, pickV, lenV, builtin, initEnv, convert, K.isU8, strOf, load, store, fieldOf, append, room, fill, placeOf, splice, repl, chunks, Ty.val, Ty.agg, V.plain, H.row, H.ety, AObj.row, Nat.reduceAdd, ↓reduceIte, Nat.reduceEqDiff, Nat.reduceBEq, Nat.reduceBNe, Nat.reduceLT, Int.reduceToNat, Int.reduceEq, Int.reduceLT, Int.reduceLE, reduceCtorEq, Nat.reduceMul, Nat.reduceLeDiff]
                obtain ⟨K557, hK558, hq⟩ := R.post_cut hq
                refine strings_IndexByte_call (x0 := [7, 8, 12, 10, 13, 9, 11, 92, 39, 34, 63]) (x1 := (gt x0 x10_409)) hq (fun r552 hq => ?_) (fun v hv => ⟨(hX v hv).1, ?_⟩)
                · replace hq := hK558 _ hq
                  obtain ⟨g553, hq⟩ := R.guard hq
                  simp only [RC, RL, RM, ↓evs_eq, unOp, wanted, aop, tkB, neD, Env.get, Env.put, Env.keep, putD, dstOk, ev, constV, nilSlice, V.demote, V.toOwn, V.cells, ty, R1.res, binOp, isShift, binOpT, isC, intOp, strOp, shiftOp, byteV, index, indexAddr, slice, bounds, hiB, loB, withB, maxV, minV, evs, pickV, lenV, builtin, initEnv, convert, K.isU8, strOf, load, store, fieldOf, append, room, fill, placeOf, splice, repl, chunks, Ty.val, Ty.agg, V.plain, H.row, H.ety, AObj.row, Nat.reduceAdd, ↓reduceIte, Nat.reduceEqDiff, Nat.reduceBEq, Nat.reduceBNe, Nat.reduceLT, Int.reduceToNat, Int.reduceEq, Int.reduceLT, Int.reduceLE, reduceCtorEq, Nat.reduceMul, Nat.reduceLeDiff]
                  repeat (with_reducible refine And.intro (by omega) ?_)
                  obtain ⟨K555, hK556, hq⟩ := R.post_cut_sure hq
                  refine strings_Builder_WriteByte_call (o0_0 := r544.1) (o0_1 := r544.2) (x1 := (List.getD [97, 98, 102, 110, 114, 116, 118, 92, 39, 34, 63] (Int.toNat r552) 0)) (id0 := h.length) (by simp only [RC, RL, RM, ↓evs_eq, unOp, wanted, aop, tkB, neD, Env.get, Env.put, Env.keep, putD, dstOk, ev, constV, nilSlice, V.demote, V.toOwn, V.cells, ty, R1.res, binOp, isShift, binOpT, isC, intOp, strOp, shiftOp, byteV, index, indexAddr, slice, bounds, hiB, loB, withB, maxV, minV, evs, pickV, lenV, builtin, initEnv, convert, K.isU8, strOf, load, store, fieldOf, append, room, fill, placeOf, splice, repl, chunks, Ty.val, Ty.agg, V.plain, H.row, H.ety, AObj.row, Nat.reduceAdd, ↓reduceIte, Nat.reduceEqDiff, Nat.reduceBEq, Nat.reduceBNe, Nat.reduceLT, Int.reduceToNat, Int.reduceEq, Int.reduceLT, Int.reduceLE, reduceCtorEq, Nat.reduceMul, Nat.reduceLeDiff] <;> rfl) hq (fun r554 hq => ?_) (fun v hv => hv.elim)
                  replace hq := hK556 _ hq
                  simp only [RC, RL, RM, ↓evs_eq, unOp, wanted, aop, tkB, neD, Env.get, Env.put, Env.keep, putD, dstOk, ev, constV, nilSlice, V.demote, V.toOwn, V.cells, ty, R1.res, binOp, isShift, binOpT, isC, intOp, strOp, shiftOp, byteV, index, indexAddr, slice, bounds, hiB, loB, withB, maxV, minV, evs, pickV, lenV, builtin, initEnv, convert, K.isU8, strOf, load, store, fieldOf, append, room, fill, placeOf, splice, repl, chunks, Ty.val, Ty.agg, V.plain, H.row, H.ety, AObj.row, Nat.reduceAdd, ↓reduceIte, Nat.reduceEqDiff, Nat.reduceBEq, Nat.reduceBNe, Nat.reduceLT, Int.reduceToNat, Int.reduceEq, Int.reduceLT, Int.reduceLE, reduceCtorEq, Nat.reduceMul, Nat.reduceLeDiff]
                  refine Wk.le (EnvLe.cons (.refl _) (EnvLe.cons (.refl _) (EnvLe.cons (.refl _) (EnvLe.cons (.top _) (EnvLe.cons (.refl _) (EnvLe.cons (.refl _) (EnvLe.cons (.refl _) (EnvLe.cons (.refl _) (EnvLe.cons (.top _) (EnvLe.cons (.refl _) (EnvLe.cons (.top _) (EnvLe.cons (.top _) (EnvLe.cons (.refl _) EnvLe.nil))))))))))))) ?_
                  try simp only [RC]
                  refine Wk.same ?_
                  try simp only [RC]
                  refine Wk.same ?_
                  try simp only [RC]
                  refine Wk.same ?_
                  try simp only [RC]
                  exact hN508 (_, _, x10_409, _, _, _, _, _, r554.1, r554.2) hq
                · simp only [RC, retQ, ↓reduceIte, Bool.false_eq_true]
                  exact leaveP_ok ((hX _ hv).1.mono (Nat.zero_le _)) (hX _ hv).2
              · replace hq := (R.post_if hq).2 hc540
                replace hc540 := eq_false_of_ne_true hc540
                refine condK_f (congrArg V.bool (hc540)) ?_
                obtain ⟨K563, hK564, hq⟩ := R.post_cut hq
                refine seq_gen (acall_mono hp) (σ := Bool) (fun s => [(0, .sl 1 (List.map byteV x0)), (2, .str []), (3, .ref h.length 0), (5, .int .u8 ((gt x0 x10_409).toNat : Int)), (6, y6_409), (8, .sl 1 (List.map byteV x0)), (9, .int .i64 (List.length x0 : Int)), (10, .int .i64 x10_409), (11, .bool (decide (x10_409 < (List.length x0 : Int)))), (16, y16_409), (25, .bool x25m514), (35, .bool x35m534), (51, .bool s)]) (fun s => h ++ [.cells 46 [selfp h.length o0_0_409, .own 5 1 (List.map byteV o0_1_409)]]) (fun s => K563 s) (fun x51m562 hq => ?_) (fun N hN565 => ?_)
                · replace hq := hK564 _ hq
                  try dsimp only at hq ⊢
                  rw [wp_cond]
                  simp only [RC, RL, RM, ↓evs_eq, unOp, wanted, aop, tkB, neD, Env.get, Env.put, Env.keep, putD, dstOk, ev, constV, nilSlice, V.demote, V.toOwn, V.cells, ty, R1.res, binOp, isShift, binOpT, isC, intOp, strOp, shiftOp, byteV, index, indexAddr, slice, bounds, hiB, loB, withB, maxV, minV, evs, pickV, lenV, builtin, initEnv, convert, K.isU8, strOf, load, store, fieldOf, append, room, fill, placeOf, splice, repl, chunks, Ty.val, Ty.agg, V.plain, H.row, H.ety, AObj.row, Nat.reduceAdd, ↓reduceIte, Nat.reduceEqDiff, Nat.reduceBEq, Nat.reduceBNe, Nat.reduceLT, Int.reduceToNat, Int.reduceEq, Int.reduceLT, Int.reduceLE, reduceCtorEq, Nat.reduceMul, Nat.reduceLeDiff]
                  by_cases hc567 : x51m562 = true
                  · replace hq := (R.post_if hq).1 hc567
                    refine condK_t (congrArg V.bool (hc567)) ?_
                    rw [wp_region]
                    simp only [RC, RL, RM, ↓evs_eq, unOp, wanted, aop, tkB, neD, Env.get, Env.put, Env.keep, putD, dstOk, ev, constV, nilSlice, V.demote, V.toOwn, V.cells, ty, R1.res, binOp, isShift, binOpT, isC, intOp, strOp, shiftOp, byteV, index, indexAddr, slice, bounds, hiB, loB, withB, maxV, minV, evs, pickV, lenV, builtin, initEnv, convert, K.isU8, strOf, load, store, fieldOf, append, room, fill, placeOf, splice, repl, chunks, Ty.val, Ty.agg, V.plain, H.row, H.ety, AObj.row, Nat.reduceAdd, ↓reduceIte, Nat.reduceEqDiff, Nat.reduceBEq, Nat.reduceBNe, Nat.reduceLT, Int.reduceToNat, Int.reduceEq, Int.reduceLT, Int.reduceLE, reduceCtorEq, Nat.reduceMul, Nat.reduceLeDiff]
                    obtain ⟨K572, hK573, hq⟩ := R.post_cut_sure hq
                    refine strings_Builder_WriteByte_call (o0_0 := o0_0_409) (o0_1 := o0_1_409) (x1 := (gt x0 x10_409)) (id0 := h.length) (by simp only [RC, RL, RM, ↓evs_eq, unOp, wanted, aop, tkB, neD, Env.get, Env.put, Env.keep, putD, dstOk, ev, constV, nilSlice, V.demote, V.toOwn, V.cells, ty, R1.res, binOp, isShift, binOpT, isC, intOp, strOp, shiftOp, byteV, index, indexAddr, slice, bounds, hiB, loB, withB, maxV, minV, evs, pickV, lenV, builtin, initEnv, convert, K.isU8, strOf, load, store, fieldOf, append, room, fill, placeOf, splice, repl, chunks, Ty.val, Ty.agg, V.plain, H.row, H.ety, AObj.row, Nat.reduceAdd, ↓reduceIte, Nat.reduceEqDiff, Nat.reduceBEq, Nat.reduceBNe, Nat.reduceLT, Int.reduceToNat, Int.reduceEq, Int.reduceLT, Int.reduceLE, reduceCtorEq, Nat.reduceMul, Nat.reduceLeDiff] <;> rfl) hq (fun r571 hq => ?_) (fun v hv => hv.elim)
                    replace hq := hK573 _ hq
                    simp only [RC, RL, RM, ↓evs_eq, unOp, wanted, aop, tkB, neD, Env.get, Env.put, Env.keep, putD, dstOk, ev, constV, nilSlice, V.demote, V.toOwn, V.cells, ty, R1.res, binOp, isShift, binOpT, isC, intOp, strOp, shiftOp, byteV, index, indexAddr, slice, bounds, hiB, loB, withB, maxV, minV, evs, pickV, lenV, builtin, initEnv, convert, K.isU8, strOf, load, store, fieldOf, append, room, fill, placeOf, splice, repl, chunks, Ty.val, Ty.agg, V.plain, H.row, H.ety, AObj.row, Nat.reduceAdd, ↓reduceIte, Nat.reduceEqDiff, Nat.reduceBEq, Nat.reduceBNe, Nat.reduceLT, Int.reduceToNat, Int.reduceEq, Int.reduceLT, Int.reduceLE, reduceCtorEq, Nat.reduceMul, Nat.reduceLeDiff]
                    refine Wk.le (EnvLe.cons (.refl _) (EnvLe.cons (.refl _) (EnvLe.cons (.refl _) (EnvLe.cons (.top _) (EnvLe.cons (.refl _) (EnvLe.cons (.refl _) (EnvLe.cons (.refl _) (EnvLe.cons (.refl _) (EnvLe.cons (.top _) (EnvLe.cons (.refl _) (EnvLe.cons (.top _) (EnvLe.cons (.top _) (EnvLe.cons (.top _) EnvLe.nil))))))))))))) ?_
                    try simp only [RC]
                    refine Wk.same ?_
                    try simp only [RC]
                    refine Wk.same ?_
                    try simp only [RC]
                    refine Wk.same ?_
                    try simp only [RC]
                    refine Wk.same ?_
                    try simp only [RC]
                    exact hN508 (_, _, x10_409, _, _, _, _, _, r571.1, r571.2) hq
                  · replace hq := (R.post_if hq).2 hc567
                    replace hc567 := eq_false_of_ne_true hc567
                    refine condK_f (congrArg V.bool (hc567)) ?_
                    rw [wp_seq]
                    rw [wp_region]
                    simp only [RC, RL, RM, ↓evs_eq, unOp, wanted, aop, tkB, neD, Env.get, Env.put, Env.keep, putD, dstOk, ev, constV, nilSlice, V.demote, V.toOwn, V.cells, ty, R1.res, binOp, isShift, binOpT, isC, intOp, strOp, shiftOp, byteV, index, indexAddr, slice, bounds, hiB, loB, withB, maxV, minV, evs, pickV, lenV, builtin, initEnv, convert, K.isU8, strOf, load, store, fieldOf, append, room, fill, placeOf, splice, repl, chunks, Ty.val, Ty.agg, V.plain, H.row, H.ety, AObj.row, Nat.reduceAdd, ↓reduceIte, Nat.reduceEqDiff, Nat.reduceBEq, Nat.reduceBNe, Nat.reduceLT, Int.reduceToNat, Int.reduceEq, Int.reduceLT, Int.reduceLE, reduceCtorEq, Nat.reduceMul, Nat.reduceLeDiff]
                    obtain ⟨K630, hK631, hq⟩ := R.post_cut_sure hq
                    refine strings_Builder_WriteByte_call (o0_0 := o0_0_409) (o0_1 := o0_1_409) (x1 := (92 : UInt8)) (id0 := h.length) (by simp only [RC, RL, RM, ↓evs_eq, unOp, wanted, aop, tkB, neD, Env.get, Env.put, Env.keep, putD, dstOk, ev, constV, nilSlice, V.demote, V.toOwn, V.cells, ty, R1.res, binOp, isShift, binOpT, isC, intOp, strOp, shiftOp, byteV, index, indexAddr, slice, bounds, hiB, loB, withB, maxV, minV, evs, pickV, lenV, builtin, initEnv, convert, K.isU8, strOf, load, store, fieldOf, append, room, fill, placeOf, splice, repl, chunks, Ty.val, Ty.agg, V.plain, H.row, H.ety, AObj.row, Nat.reduceAdd, ↓reduceIte, Nat.reduceEqDiff, Nat.reduceBEq, Nat.reduceBNe, Nat.reduceLT, Int.reduceToNat, Int.reduceEq, Int.reduceLT, Int.reduceLE, reduceCtorEq, Nat.reduceMul, Nat.reduceLeDiff] <;> rfl) hq (fun r577 hq => ?_) (fun v hv => hv.elim)
                    replace hq := hK631 _ hq
                    simp only [RC, RL, RM, ↓evs_eq, unOp, wanted, aop, tkB, neD, Env.get, Env.put, Env.keep, putD, dstOk, ev, constV, nilSlice, V.demote, V.toOwn, V.cells, ty, R1.res, binOp, isShift, binOpT, isC, intOp, strOp, shiftOp, byteV, index, indexAddr, slice, bounds, hiB, loB, withB, maxV, minV, evs, pickV, lenV, builtin, initEnv, convert, K.isU8, strOf, load, store, fieldOf, append, room, fill, placeOf, splice, repl, chunks, Ty.val, Ty.agg, V.plain, H.row, H.ety, AObj.row, Nat.reduceAdd, ↓reduceIte, Nat.reduceEqDiff, Nat.reduceBEq, Nat.reduceBNe, Nat.reduceLT, Int.reduceToNat, Int.reduceEq, Int.reduceLT, Int.reduceLE, reduceCtorEq, Nat.reduceMul, Nat.reduceLeDiff]
                    rw [wp_seq]
                    rw [wp_region]
                    simp only [RC, RL, RM, ↓evs_eq, unOp, wanted, aop, tkB, neD, Env.get, Env.put, Env.keep, putD, dstOk, ev, constV, nilSlice, V.demote, V.toOwn, V.cells, ty, R1.res, binOp, isShift, binOpT, isC, intOp, strOp, shiftOp, byteV, index, indexAddr, slice, bounds, hiB, loB, withB, maxV, minV, evs, pickV, lenV, builtin, initEnv, convert, K.isU8, strOf, load, store, fieldOf, append, room, fill, placeOf, splice, repl, chunks, Ty.val, Ty.agg, V.plain, H.row, H.ety, AObj.row, Nat.reduceAdd, ↓reduceIte, Nat.reduceEqDiff, Nat.reduceBEq, Nat.reduceBNe, Nat.reduceLT, Int.reduceToNat, Int.reduceEq, Int.reduceLT, Int.reduceLE, reduceCtorEq, Nat.reduceMul, Nat.reduceLeDiff]
                    rw [wp_block]
                    refine loop_in ?_
                    refine Wk.same ?_
                    obtain ⟨K610, hK611, hq⟩ := R.post_cut hq
                    refine loop_gen (acall_mono hp) (σ := Int × V × Bool × (List UInt8)) (fun s => [(0, .sl 1 (List.map byteV x0)), (2, .str []), (3, .ref h.length 0), (5, .int .u8 ((gt x0 x10_409).toNat : Int)), (6, .int .i64 s.1), (8, .sl 1 (List.map byteV x0)), (9, .int .i64 (List.length x0 : Int)), (10, .int .i64 x10_409), (11, .bool (decide (x10_409 < (List.length x0 : Int)))), (16, s.2.1), (25, .bool x25m514), (35, .bool x35m534), (51, .bool x51m562)]) (fun s => h ++ [.cells 46 [selfp h.length s.2.2.1, .own 5 1 (List.map byteV s.2.2.2)]]) (fun k s => (quote_Text_l3 x0 x10_409 k s.1 s.2.2.1 s.2.2.2).post K610 X) (fun s hs => hs) (fun k628 s hq N hN612 => ?_) _ (6, _, r577.1, r577.2) hq
                    obtain ⟨x6_594, y16_594, o0_0_594, o0_1_594⟩ := s
                    try dsimp only at hq ⊢
                    rw [quote_Text_l3] at hq
                    rw [wp_seq]
                    rw [wp_seq]
                    rw [wp_region]
                    simp only [RC, RL, RM, ↓evs_eq, unOp, wanted, aop, tkB, neD, Env.get, Env.put, Env.keep, putD, dstOk, ev, constV, nilSlice, V.demote, V.toOwn, V.cells, ty, R1.res, binOp, isShift, binOpT, isC, intOp, strOp, shiftOp, byteV, index, indexAddr, slice, bounds, hiB, loB, withB, maxV, minV, evs, pickV, lenV, builtin, initEnv, convert, K.isU8, strOf, load, store, fieldOf, append, room, fill, placeOf, splice, repl, chunks, Ty.val, Ty.agg, V.plain, H.row, H.ety, AObj.row, Nat.reduceAdd, ↓reduceIte, Nat.reduceEqDiff, Nat.reduceBEq, Nat.reduceBNe, Nat.reduceLT, Int.reduceToNat, Int.reduceEq, Int.reduceLT, Int.reduceLE, reduceCtorEq, Nat.reduceMul, Nat.reduceLeDiff]
                    rw [wp_cond]
                    simp only [RC, RL, RM, ↓evs_eq, unOp, wanted, aop, tkB, neD, Env.get, Env.put, Env.keep, putD, dstOk, ev, constV, nilSlice, V.demote, V.toOwn, V.cells, ty, R1.res, binOp, isShift, binOpT, isC, intOp, strOp, shiftOp, byteV, index, indexAddr, slice, bounds, hiB, loB, withB, maxV, minV, evs, pickV, lenV, builtin, initEnv, convert, K.isU8, strOf, load, store, fieldOf, append, room, fill, placeOf, splice, repl, chunks, Ty.val, Ty.agg, V.plain, H.row, H.ety, AObj.row, Nat.reduceAdd, ↓reduceIte, Nat.reduceEqDiff, Nat.reduceBEq, Nat.reduceBNe, Nat.reduceLT, Int.reduceToNat, Int.reduceEq, Int.reduceLT, Int.reduceLE, reduceCtorEq, Nat.reduceMul, Nat.reduceLeDiff]
                    by_cases hc613 : (0 : Int) ≤ x6_594
                    · replace hq := (R.post_if hq).1 hc613
                      refine condK_t (congrArg V.bool (decide_eq_true hc613)) ?_
                      try simp only [wp_skip, RC]
                      refine Wk.same ?_
                      try simp only [RC]
                      rw [wp_seq]
                      rw [wp_block]
                      rw [wp_region]
                      obtain ⟨g621, hq⟩ := R.guard hq
                      have e622 := u8_fix (n := (Int.fdiv ((gt x0 x10_409).toNat : Int) (2 ^ (min (Int.toNat x6_594) 8)))) (fdiv_u8 _ _)
                      have e623 := u8_fix (n := (bitsV .and .u8 ((u8 (Int.fdiv ((gt x0 x10_409).toNat : Int) (2 ^ (min (Int.toNat x6_594) 8)))).toNat : Int) 7)) (bits_u8 _ _ _)
                      have e624 := u8_fix (n := (IntKind.wrap .u8 (48 + ((u8 (bitsV .and .u8 ((u8 (Int.fdiv ((gt x0 x10_409).toNat : Int) (2 ^ (min (Int.toNat x6_594) 8)))).toNat : Int) 7)).toNat : Int)))) (wrap_u8 _)
                      simp only [e622, e623, e624, RC, RL, RM, ↓evs_eq, unOp, wanted, aop, tkB, neD, Env.get, Env.put, Env.keep, putD, dstOk, ev, constV, nilSlice, V.demote, V.toOwn, V.cells, ty, R1.res, binOp, isShift, binOpT, isC, intOp, strOp, shiftOp, byteV, index, indexAddr, slice, bounds, hiB, loB, withB, maxV, minV, evs, pickV, lenV, builtin, initEnv, convert, K.isU8, strOf, load, store, fieldOf, append, room, fill, placeOf, splice, repl, chunks, Ty.val, Ty.agg, V.plain, H.row, H.ety, AObj.row, Nat.reduceAdd, ↓reduceIte, Nat.reduceEqDiff, Nat.reduceBEq, Nat.reduceBNe, Nat.reduceLT, Int.reduceToNat, Int.reduceEq, Int.reduceLT, Int.reduceLE, reduceCtorEq, Nat.reduceMul, Nat.reduceLeDiff]
                      repeat (with_reducible refine And.intro (by omega) ?_)
                      obtain ⟨K626, hK627, hq⟩ := R.post_cut_sure hq
                      refine strings_Builder_WriteByte_call (o0_0 := o0_0_594) (o0_1 := o0_1_594) (x1 := (u8 (IntKind.wrap .u8 (48 + ((u8 (bitsV .and .u8 ((u8 (Int.fdiv ((gt x0 x10_409).toNat : Int) (2 ^ (min (Int.toNat x6_594) 8)))).toNat : Int) 7)).toNat : Int))))) (id0 := h.length) (by simp only [RC, RL, RM, ↓evs_eq, unOp, wanted, aop, tkB, neD, Env.get, Env.put, Env.keep, putD, dstOk, ev, constV, nilSlice, V.demote, V.toOwn, V.cells, ty, R1.res, binOp, isShift, binOpT, isC, intOp, strOp, shiftOp, byteV, index, indexAddr, slice, bounds, hiB, loB, withB, maxV, minV, evs, pickV, lenV, builtin, initEnv, convert, K.isU8, strOf, load, store, fieldOf, append, room, fill, placeOf, splice, repl, chunks, Ty.val, Ty.agg, V.plain, H.row, H.ety, AObj.row, Nat.reduceAdd, ↓reduceIte, Nat.reduceEqDiff, Nat.reduceBEq, Nat.reduceBNe, Nat.reduceLT, Int.reduceToNat, Int.reduceEq, Int.reduceLT, Int.reduceLE, reduceCtorEq, Nat.reduceMul, Nat.reduceLeDiff] <;> rfl) hq (fun r625 hq => ?_) (fun v hv => hv.elim)
                      replace hq := hK627 _ hq
                      simp only [RC, RL, RM, ↓evs_eq, unOp, wanted, aop, tkB, neD, Env.get, Env.put, Env.keep, putD, dstOk, ev, constV, nilSlice, V.demote, V.toOwn, V.cells, ty, R1.res, binOp, isShift, binOpT, isC, intOp, strOp, shiftOp, byteV, index, indexAddr, slice, bounds, hiB, loB, withB, maxV, minV, evs, pickV, lenV, builtin, initEnv, convert, K.isU8, strOf, load, store, fieldOf, append, room, fill, placeOf, splice, repl, chunks, Ty.val, Ty.agg, V.plain, H.row, H.ety, AObj.row, Nat.reduceAdd, ↓reduceIte, Nat.reduceEqDiff, Nat.reduceBEq, Nat.reduceBNe, Nat.reduceLT, Int.reduceToNat, Int.reduceEq, Int.reduceLT, Int.reduceLE, reduceCtorEq, Nat.reduceMul, Nat.reduceLeDiff]
                      refine Wk.same ?_
                      try simp only [RC]
                      rw [wp_region]
                      simp only [RC, RL, RM, ↓evs_eq, unOp, wanted, aop, tkB, neD, Env.get, Env.put, Env.keep, putD, dstOk, ev, constV, nilSlice, V.demote, V.toOwn, V.cells, ty, R1.res, binOp, isShift, binOpT, isC, intOp, strOp, shiftOp, byteV, index, indexAddr, slice, bounds, hiB, loB, withB, maxV, minV, evs, pickV, lenV, builtin, initEnv, convert, K.isU8, strOf, load, store, fieldOf, append, room, fill, placeOf, splice, repl, chunks, Ty.val, Ty.agg, V.plain, H.row, H.ety, AObj.row, Nat.reduceAdd, ↓reduceIte, Nat.reduceEqDiff, Nat.reduceBEq, Nat.reduceBNe, Nat.reduceLT, Int.reduceToNat, Int.reduceEq, Int.reduceLT, Int.reduceLE, reduceCtorEq, Nat.reduceMul, Nat.reduceLeDiff]
                      refine Wk.le (EnvLe.cons (.refl _) (EnvLe.cons (.refl _) (EnvLe.cons (.refl _) (EnvLe.cons (.refl _) (EnvLe.cons (.refl _) (EnvLe.cons (.refl _) (EnvLe.cons (.refl _) (EnvLe.cons (.refl _) (EnvLe.cons (.refl _) (EnvLe.cons (.top _) (EnvLe.cons (.refl _) (EnvLe.cons (.refl _) (EnvLe.cons (.refl _) EnvLe.nil))))))))))))) ?_
                      exact hN612 ((IntKind.wrap .i64 (x6_594 - 3)), _, r625.1, r625.2) hq
                    · replace hq := (R.post_if hq).2 hc613
                      refine condK_f (congrArg V.bool (decide_eq_false hc613)) ?_
                      rw [wp_exit]
                      try simp only [↓reduceIte, Nat.reduceEqDiff, reduceCtorEq, if_false, if_true, eq_self, Nat.succ_ne_self, RC]
                      replace hq := hK611 _ hq
                      try dsimp only at hq
                      refine Wk.le (EnvLe.cons (.refl _) (EnvLe.cons (.refl _) (EnvLe.cons (.refl _) (EnvLe.cons (.top _) (EnvLe.cons (.top _) (EnvLe.cons (.refl _) (EnvLe.cons (.refl _) (EnvLe.cons (.refl _) (EnvLe.cons (.top _) (EnvLe.cons (.top _) (EnvLe.cons (.top _) (EnvLe.cons (.top _) (EnvLe.cons (.top _) EnvLe.nil))))))))))))) ?_
                      try simp only [RC]
                      refine Wk.same ?_
                      try simp only [RC]
                      refine Wk.same ?_
                      try simp only [RC]
                      refine Wk.same ?_
                      try simp only [RC]
                      refine Wk.same ?_
                      try simp only [RC]
                      refine Wk.same ?_
                      try simp only [RC]
                      exact hN508 (_, _, x10_409, _, _, _, _, _, o0_0_594, o0_1_594) hq
                · rw [wp_region]
                  simp only [RC, RL, RM, ↓evs_eq, unOp, wanted, aop, tkB, neD, Env.get, Env.put, Env.keep, putD, dstOk, ev, constV, nilSlice, V.demote, V.toOwn, V.cells, ty, R1.res, binOp, isShift, binOpT, isC, intOp, strOp, shiftOp, byteV, index, indexAddr, slice, bounds, hiB, loB, withB, maxV, minV, evs, pickV, lenV, builtin, initEnv, convert, K.isU8, strOf, load, store, fieldOf, append, room, fill, placeOf, splice, repl, chunks, Ty.val, Ty.agg, V.plain, H.row, H.ety, AObj.row, Nat.reduceAdd, ↓reduceIte, Nat.reduceEqDiff, Nat.reduceBEq, Nat.reduceBNe, Nat.reduceLT, Int.reduceToNat, Int.reduceEq, Int.reduceLT, Int.reduceLE, reduceCtorEq, Nat.reduceMul, Nat.reduceLeDiff]
                  by_cases hc566 : (32 : Int) ≤ ((gt x0 x10_409).toNat : Int)
                  · replace hq := (R.post_if hq).1 hc566
                    simp only [decide_eq_true hc566, RC, RL, RM, ↓evs_eq, unOp, wanted, aop, tkB, neD, Env.get, Env.put, Env.keep, putD, dstOk, ev, constV, nilSlice, V.demote, V.toOwn, V.cells, ty, R1.res, binOp, isShift, binOpT, isC, intOp, strOp, shiftOp, byteV, index, indexAddr, slice, bounds, hiB, loB, withB, maxV, minV, evs, pickV, lenV, builtin, initEnv, convert, K.isU8, strOf, load, store, fieldOf, append, room, fill, placeOf, splice, repl, chunks, Ty.val, Ty.agg, V.plain, H.row, H.ety, AObj.row, Nat.reduceAdd, ↓reduceIte, Nat.reduceEqDiff, Nat.reduceBEq, Nat.reduceBNe, Nat.reduceLT, Int.reduceToNat, Int.reduceEq, Int.reduceLT, Int.reduceLE, reduceCtorEq, Nat.reduceMul, Nat.reduceLeDiff]
                    exact hN565 (decide (((gt x0 x10_409).toNat : Int) < 127)) hq
                  · replace hq := (R.post_if hq).2 hc566
                    simp only [decide_eq_false hc566, RC, RL, RM, ↓evs_eq, unOp, wanted, aop, tkB, neD, Env.get, Env.put, Env.keep, putD, dstOk, ev, constV, nilSlice, V.demote, V.toOwn, V.cells, ty, R1.res, binOp, isShift, binOpT, isC, intOp, strOp, shiftOp, byteV, index, indexAddr, slice, bounds, hiB, loB, withB, maxV, minV, evs, pickV, lenV, builtin, initEnv, convert, K.isU8, strOf, load, store, fieldOf, append, room, fill, placeOf, splice, repl, chunks, Ty.val, Ty.agg, V.plain, H.row, H.ety, AObj.row, Nat.reduceAdd, ↓reduceIte, Nat.reduceEqDiff, Nat.reduceBEq, Nat.reduceBNe, Nat.reduceLT, Int.reduceToNat, Int.reduceEq, Int.reduceLT, Int.reduceLE, reduceCtorEq, Nat.reduceMul, Nat.reduceLeDiff]
                    exact hN565 false hq
            · rw [wp_region]
              simp only [RC, RL, RM, ↓evs_eq, unOp, wanted, aop, tkB, neD, Env.get, Env.put, Env.keep, putD, dstOk, ev, constV, nilSlice, V.demote, V.toOwn, V.cells, ty, R1.res, binOp, isShift, binOpT, isC, intOp, strOp, shiftOp, byteV, index, indexAddr, slice, bounds, hiB, loB, withB, maxV, minV, evs, pickV, lenV, builtin, initEnv, convert, K.isU8, strOf, load, store, fieldOf, append, room, fill, placeOf, splice, repl, chunks, Ty.val, Ty.agg, V.plain, H.row, H.ety, AObj.row, Nat.reduceAdd, ↓reduceIte, Nat.reduceEqDiff, Nat.reduceBEq, Nat.reduceBNe, Nat.reduceLT, Int.reduceToNat, Int.reduceEq, Int.reduceLT, Int.reduceLE, reduceCtorEq, Nat.reduceMul, Nat.reduceLeDiff]
              by_cases hc538 : ((gt x0 x10_409).toNat : Int) = 9
              · replace hq := (R.post_if hq).1 hc538
                simp only [decide_eq_true hc538, RC, RL, RM, ↓evs_eq, unOp, wanted, aop, tkB, neD, Env.get, Env.put, Env.keep, putD, dstOk, ev, constV, nilSlice, V.demote, V.toOwn, V.cells, ty, R1.res, binOp, isShift, binOpT, isC, intOp, strOp, shiftOp, byteV, index, indexAddr, slice, bounds, hiB, loB, withB, maxV, minV, evs, pickV, lenV, builtin, initEnv, convert, K.isU8, strOf, load, store, fieldOf, append, room, fill, placeOf, splice, repl, chunks, Ty.val, Ty.agg, V.plain, H.row, H.ety, AObj.row, Nat.reduceAdd, ↓reduceIte, Nat.reduceEqDiff, Nat.reduceBEq, Nat.reduceBNe, Nat.reduceLT, Int.reduceToNat, Int.reduceEq, Int.reduceLT, Int.reduceLE, reduceCtorEq, Nat.reduceMul, Nat.reduceLeDiff]
                exact hN537 true hq
              · replace hq := (R.post_if hq).2 hc538
                simp only [decide_eq_false hc538, RC, RL, RM, ↓evs_eq, unOp, wanted, aop, tkB, neD, Env.get, Env.put, Env.keep, putD, dstOk, ev, constV, nilSlice, V.demote, V.toOwn, V.cells, ty, R1.res, binOp, isShift, binOpT, isC, intOp, strOp, shiftOp, byteV, index, indexAddr, slice, bounds, hiB, loB, withB, maxV, minV, evs, pickV, lenV, builtin, initEnv, convert, K.isU8, strOf, load, store, fieldOf, append, room, fill, placeOf, splice, repl, chunks, Ty.val, Ty.agg, V.plain, H.row, H.ety, AObj.row, Nat.reduceAdd, ↓reduceIte, Nat.reduceEqDiff, Nat.reduceBEq, Nat.reduceBNe, Nat.reduceLT, Int.reduceToNat, Int.reduceEq, Int.reduceLT, Int.reduceLE, reduceCtorEq, Nat.reduceMul, Nat.reduceLeDiff]
                by_cases hc539 : ((gt x0 x10_409).toNat : Int) = 10
                · replace hq := (R.post_if hq).1 hc539
                  simp only [decide_eq_true hc539, RC, RL, RM, ↓evs_eq, unOp, wanted, aop, tkB, neD, Env.get, Env.put, Env.keep, putD, dstOk, ev, constV, nilSlice, V.demote, V.toOwn, V.cells, ty, R1.res, binOp, isShift, binOpT, isC, intOp, strOp, shiftOp, byteV, index, indexAddr, slice, bounds, hiB, loB, withB, maxV, minV, evs, pickV, lenV, builtin, initEnv, convert, K.isU8, strOf, load, store, fieldOf, append, room, fill, placeOf, splice, repl, chunks, Ty.val, Ty.agg, V.plain, H.row, H.ety, AObj.row, Nat.reduceAdd, ↓reduceIte, Nat.reduceEqDiff, Nat.reduceBEq, Nat.reduceBNe, Nat.reduceLT, Int.reduceToNat, Int.reduceEq, Int.reduceLT, Int.reduceLE, reduceCtorEq, Nat.reduceMul, Nat.reduceLeDiff]
                  exact hN537 true hq
                · replace hq := (R.post_if hq).2 hc539
                  simp only [decide_eq_false hc539, RC, RL, RM, ↓evs_eq, unOp, wanted, aop, tkB, neD, Env.get, Env.put, Env.keep, putD, dstOk, ev, constV, nilSlice, V.demote, V.toOwn, V.cells, ty, R1.res, binOp, isShift, binOpT, isC, intOp, strOp, shiftOp, byteV, index, indexAddr, slice, bounds, hiB, loB, withB, maxV, minV, evs, pickV, lenV, builtin, initEnv, convert, K.isU8, strOf, load, store, fieldOf, append, room, fill, placeOf, splice, repl, chunks, Ty.val, Ty.agg, V.plain, H.row, H.ety, AObj.row, Nat.reduceAdd, ↓reduceIte, Nat.reduceEqDiff, Nat.reduceBEq, Nat.reduceBNe, Nat.reduceLT, Int.reduceToNat, Int.reduceEq, Int.reduceLT, Int.reduceLE, reduceCtorEq, Nat.reduceMul, Nat.reduceLeDiff]
                  exact hN537 (decide (((gt x0 x10_409).toNat : Int) = 13)) hq
        · rw [wp_region]
          simp only [RC, RL, RM, ↓evs_eq, unOp, wanted, aop, tkB, neD, Env.get, Env.put, Env.keep, putD, dstOk, ev, constV, nilSlice, V.demote, V.toOwn, V.cells, ty, R1.res, binOp, isShift, binOpT, isC, intOp, strOp, shiftOp, byteV, index, indexAddr, slice, bounds, hiB, loB, withB, maxV, minV, evs, pickV, lenV, builtin, initEnv, convert, K.isU8, strOf, load, store, fieldOf, append, room, fill, placeOf, splice, repl, chunks, Ty.val, Ty.agg, V.plain, H.row, H.ety, AObj.row, Nat.reduceAdd, ↓reduceIte, Nat.reduceEqDiff, Nat.reduceBEq, Nat.reduceBNe, Nat.reduceLT, Int.reduceToNat, Int.reduceEq, Int.reduceLT, Int.reduceLE, reduceCtorEq, Nat.reduceMul, Nat.reduceLeDiff]
          by_cases hc518 : ((gt x0 x10_409).toNat : Int) = 34
          · replace hq := (R.post_if hq).1 hc518
            simp only [decide_eq_true hc518, RC, RL, RM, ↓evs_eq, unOp, wanted, aop, tkB, neD, Env.get, Env.put, Env.keep, putD, dstOk, ev, constV, nilSlice, V.demote, V.toOwn, V.cells, ty, R1.res, binOp, isShift, binOpT, isC, intOp, strOp, shiftOp, byteV, index, indexAddr, slice, bounds, hiB, loB, withB, maxV, minV, evs, pickV, lenV, builtin, initEnv, convert, K.isU8, strOf, load, store, fieldOf, append, room, fill, placeOf, splice, repl, chunks, Ty.val, Ty.agg, V.plain, H.row, H.ety, AObj.row, Nat.reduceAdd, ↓reduceIte, Nat.reduceEqDiff, Nat.reduceBEq, Nat.reduceBNe, Nat.reduceLT, Int.reduceToNat, Int.reduceEq, Int.reduceLT, Int.reduceLE, reduceCtorEq, Nat.reduceMul, Nat.reduceLeDiff]
            exact hN517 true hq
          · replace hq := (R.post_if hq).2 hc518
            simp only [decide_eq_false hc518, RC, RL, RM, ↓evs_eq, unOp, wanted, aop, tkB, neD, Env.get, Env.put, Env.keep, putD, dstOk, ev, constV, nilSlice, V.demote, V.toOwn, V.cells, ty, R1.res, binOp, isShift, binOpT, isC, intOp, strOp, shiftOp, byteV, index, indexAddr, slice, bounds, hiB, loB, withB, maxV, minV, evs, pickV, lenV, builtin, initEnv, convert, K.isU8, strOf, load, store, fieldOf, append, room, fill, placeOf, splice, repl, chunks, Ty.val, Ty.agg, V.plain, H.row, H.ety, AObj.row, Nat.reduceAdd, ↓reduceIte, Nat.reduceEqDiff, Nat.reduceBEq, Nat.reduceBNe, Nat.reduceLT, Int.reduceToNat, Int.reduceEq, Int.reduceLT, Int.reduceLE, reduceCtorEq, Nat.reduceMul, Nat.reduceLeDiff]
            exact hN517 (decide (((gt x0 x10_409).toNat : Int) = 92)) hq
    · replace hq := (R.post_if hq).2 hc506
      refine condK_f (congrArg V.bool (decide_eq_false hc506)) ?_
      rw [wp_exit]
      try simp only [↓reduceIte, Nat.reduceEqDiff, reduceCtorEq, if_false, if_true, eq_self, Nat.succ_ne_self, RC]
      replace hq := hK504 _ hq
      try dsimp only at hq
      refine Wk.le (EnvLe.cons (.refl _) (EnvLe.cons (.refl _) (EnvLe.cons (.refl _) (EnvLe.cons (.refl _) (EnvLe.cons (.refl _) (EnvLe.cons (.top _) (EnvLe.cons (.top _) (EnvLe.cons (.top _) (EnvLe.cons (.top _) (EnvLe.cons (.refl _) (EnvLe.cons (.refl _) (EnvLe.cons (.refl _) (EnvLe.cons (.refl _) EnvLe.nil))))))))))))) ?_
      try simp only [RC]
      exact hN314 (_, _, _, _, _, _, _, _, _, _, o0_0_409, o0_1_409) hq
end Go.Proofs.Ytgbgnglngpbehaa.Pv
