/- Functions of the program, as plain Lean functions, and that the code comes to them: printed by gen.py. -/
import Derived.Test.YtblbbmlppmpmjaaG0
set_option linter.unusedVariables false
set_option linter.unusedSimpArgs false
set_option maxHeartbeats 4000000
set_option maxRecDepth 10000
namespace Go.Proofs.Ytblbbmlppmpmjaa.Pv
open Go Go.Proofs

def lex_blank (x0 : UInt8) : R (Bool) :=
  (if (x0.toNat : Int) = 32 then (R.ok true) else (if (9 : Int) ≤ (x0.toNat : Int) then (R.ok (decide ((x0.toNat : Int) ≤ 13))) else (R.ok false))).bind fun x2m3 => R.ok x2m3
theorem lex_blank_call {h : H} {x0 : UInt8} {Q : Out → H → Prop} {KK : (Bool) → Prop} {X : V → Prop} (hq : (lex_blank x0).post KK X) (hK : ∀ r, KK r → Q (.ret (.bool r)) h) (hX : ∀ v, X v → V.Cl 0 v ∧ Q (.panic v) h) : CA qprim 27 [.int .u8 (x0.toNat : Int)] h Q := by
  refine acalln hp Try.func27 rfl (by kernel_rfl) (n := 13) rfl (rs := [.tmp 2]) rfl [0, 2] [] false (by simp) ?_
  unfold lex_blank at hq
  simp only [initEnv, List.map_cons, List.map_nil, List.getD_cons_zero, List.getD_cons_succ, List.getD_nil, V.demote]
  rw [wp_seq]
  rw [wp_region]
  simp only [RC, RL, RM, ↓evs_eq, loadN, sliceOp, cut, upon_each, buildOk, lookup, lookV, update, elemOf, Option.isSome_map, unOp, wanted, aop, tkB, neD, Env.get, Env.put, Env.keep, putD, dstOk, ev, constV, nilSlice, V.demote, V.toOwn, V.cells, ty, R1.res, binOp, isShift, binOpT, isC, intOp, strOp, shiftOp, byteV, index, indexAddr, slice, bounds, hiB, loB, withB, maxV, minV, evs, pickV, lenV, builtin, initEnv, convert, K.isU8, strOf, load, store, fieldOf, append, appT, fltOp, cpxV, realV, imagV, toInt, room, fill, placeOf, splice, repl, chunks, Ty.val, Ty.agg, V.plain, H.row, H.ety, AObj.row, Nat.reduceAdd, ↓reduceIte, Nat.reduceEqDiff, Nat.reduceBEq, Nat.reduceBNe, Nat.reduceLT, Int.reduceToNat, Int.reduceEq, Int.reduceLT, Int.reduceLE, reduceCtorEq, Nat.reduceMul, Nat.reduceLeDiff, S_api_Token.enc]
  obtain ⟨K4, hK5, hq⟩ := R.post_cut hq
  refine seq_gen (acall_mono hp) (σ := Bool) (fun s => [(0, .int .u8 (x0.toNat : Int)), (2, .bool s)]) (fun s => h) (fun s => K4 s) (fun x2m3 hq => ?_) (fun N hN6 => ?_)
  · replace hq := hK5 _ hq
    try dsimp only at hq ⊢
    rw [wp_ret]
    simp only [retQ, results, resultAll, resultOne, Nat.zero_add, RC, RL, RM, ↓evs_eq, loadN, sliceOp, cut, upon_each, buildOk, lookup, lookV, update, elemOf, Option.isSome_map, unOp, wanted, aop, tkB, neD, Env.get, Env.put, Env.keep, putD, dstOk, ev, constV, nilSlice, V.demote, V.toOwn, V.cells, ty, R1.res, binOp, isShift, binOpT, isC, intOp, strOp, shiftOp, byteV, index, indexAddr, slice, bounds, hiB, loB, withB, maxV, minV, evs, pickV, lenV, builtin, initEnv, convert, K.isU8, strOf, load, store, fieldOf, append, appT, fltOp, cpxV, realV, imagV, toInt, room, fill, placeOf, splice, repl, chunks, Ty.val, Ty.agg, V.plain, H.row, H.ety, AObj.row, Nat.reduceAdd, ↓reduceIte, Nat.reduceEqDiff, Nat.reduceBEq, Nat.reduceBNe, Nat.reduceLT, Int.reduceToNat, Int.reduceEq, Int.reduceLT, Int.reduceLE, reduceCtorEq, Nat.reduceMul, Nat.reduceLeDiff, S_api_Token.enc]
    refine ⟨_, (.refl _), ?_⟩
    exact hK _ hq
  · rw [wp_region]
    simp only [RC, RL, RM, ↓evs_eq, loadN, sliceOp, cut, upon_each, buildOk, lookup, lookV, update, elemOf, Option.isSome_map, unOp, wanted, aop, tkB, neD, Env.get, Env.put, Env.keep, putD, dstOk, ev, constV, nilSlice, V.demote, V.toOwn, V.cells, ty, R1.res, binOp, isShift, binOpT, isC, intOp, strOp, shiftOp, byteV, index, indexAddr, slice, bounds, hiB, loB, withB, maxV, minV, evs, pickV, lenV, builtin, initEnv, convert, K.isU8, strOf, load, store, fieldOf, append, appT, fltOp, cpxV, realV, imagV, toInt, room, fill, placeOf, splice, repl, chunks, Ty.val, Ty.agg, V.plain, H.row, H.ety, AObj.row, Nat.reduceAdd, ↓reduceIte, Nat.reduceEqDiff, Nat.reduceBEq, Nat.reduceBNe, Nat.reduceLT, Int.reduceToNat, Int.reduceEq, Int.reduceLT, Int.reduceLE, reduceCtorEq, Nat.reduceMul, Nat.reduceLeDiff, S_api_Token.enc]
    by_cases hc7 : (x0.toNat : Int) = 32
    · replace hq := (R.post_if hq).1 hc7
      simp only [decide_eq_true hc7, RC, RL, RM, ↓evs_eq, loadN, sliceOp, cut, upon_each, buildOk, lookup, lookV, update, elemOf, Option.isSome_map, unOp, wanted, aop, tkB, neD, Env.get, Env.put, Env.keep, putD, dstOk, ev, constV, nilSlice, V.demote, V.toOwn, V.cells, ty, R1.res, binOp, isShift, binOpT, isC, intOp, strOp, shiftOp, byteV, index, indexAddr, slice, bounds, hiB, loB, withB, maxV, minV, evs, pickV, lenV, builtin, initEnv, convert, K.isU8, strOf, load, store, fieldOf, append, appT, fltOp, cpxV, realV, imagV, toInt, room, fill, placeOf, splice, repl, chunks, Ty.val, Ty.agg, V.plain, H.row, H.ety, AObj.row, Nat.reduceAdd, ↓reduceIte, Nat.reduceEqDiff, Nat.reduceBEq, Nat.reduceBNe, Nat.reduceLT, Int.reduceToNat, Int.reduceEq, Int.reduceLT, Int.reduceLE, reduceCtorEq, Nat.reduceMul, Nat.reduceLeDiff, S_api_Token.enc]
      exact hN6 true hq
    · replace hq := (R.post_if hq).2 hc7
      simp only [decide_eq_false hc7, RC, RL, RM, ↓evs_eq, loadN, sliceOp, cut, upon_each, buildOk, lookup, lookV, update, elemOf, Option.isSome_map, unOp, wanted, aop, tkB, neD, Env.get, Env.put, Env.keep, putD, dstOk, ev, constV, nilSlice, V.demote, V.toOwn, V.cells, ty, R1.res, binOp, isShift, binOpT, isC, intOp, strOp, shiftOp, byteV, index, indexAddr, slice, bounds, hiB, loB, withB, maxV, minV, evs, pickV, lenV, builtin, initEnv, convert, K.isU8, strOf, load, store, fieldOf, append, appT, fltOp, cpxV, realV, imagV, toInt, room, fill, placeOf, splice, repl, chunks, Ty.val, Ty.agg, V.plain, H.row, H.ety, AObj.row, Nat.reduceAdd, ↓reduceIte, Nat.reduceEqDiff, Nat.reduceBEq, Nat.reduceBNe, Nat.reduceLT, Int.reduceToNat, Int.reduceEq, Int.reduceLT, Int.reduceLE, reduceCtorEq, Nat.reduceMul, Nat.reduceLeDiff, S_api_Token.enc]
      by_cases hc8 : (9 : Int) ≤ (x0.toNat : Int)
      · replace hq := (R.post_if hq).1 hc8
        simp only [decide_eq_true hc8, RC, RL, RM, ↓evs_eq, loadN, sliceOp, cut, upon_each, buildOk, lookup, lookV, update, elemOf, Option.isSome_map, unOp, wanted, aop, tkB, neD, Env.get, Env.put, Env.keep, putD, dstOk, ev, constV, nilSlice, V.demote, V.toOwn, V.cells, ty, R1.res, binOp, isShift, binOpT, isC, intOp, strOp, shiftOp, byteV, index, indexAddr, slice, bounds, hiB, loB, withB, maxV, minV, evs, pickV, lenV, builtin, initEnv, convert, K.isU8, strOf, load, store, fieldOf, append, appT, fltOp, cpxV, realV, imagV, toInt, room, fill, placeOf, splice, repl, chunks, Ty.val, Ty.agg, V.plain, H.row, H.ety, AObj.row, Nat.reduceAdd, ↓reduceIte, Nat.reduceEqDiff, Nat.reduceBEq, Nat.reduceBNe, Nat.reduceLT, Int.reduceToNat, Int.reduceEq, Int.reduceLT, Int.reduceLE, reduceCtorEq, Nat.reduceMul, Nat.reduceLeDiff, S_api_Token.enc]
        exact hN6 (decide ((x0.toNat : Int) ≤ 13)) hq
      · replace hq := (R.post_if hq).2 hc8
        simp only [decide_eq_false hc8, RC, RL, RM, ↓evs_eq, loadN, sliceOp, cut, upon_each, buildOk, lookup, lookV, update, elemOf, Option.isSome_map, unOp, wanted, aop, tkB, neD, Env.get, Env.put, Env.keep, putD, dstOk, ev, constV, nilSlice, V.demote, V.toOwn, V.cells, ty, R1.res, binOp, isShift, binOpT, isC, intOp, strOp, shiftOp, byteV, index, indexAddr, slice, bounds, hiB, loB, withB, maxV, minV, evs, pickV, lenV, builtin, initEnv, convert, K.isU8, strOf, load, store, fieldOf, append, appT, fltOp, cpxV, realV, imagV, toInt, room, fill, placeOf, splice, repl, chunks, Ty.val, Ty.agg, V.plain, H.row, H.ety, AObj.row, Nat.reduceAdd, ↓reduceIte, Nat.reduceEqDiff, Nat.reduceBEq, Nat.reduceBNe, Nat.reduceLT, Int.reduceToNat, Int.reduceEq, Int.reduceLT, Int.reduceLE, reduceCtorEq, Nat.reduceMul, Nat.reduceLeDiff, S_api_Token.enc]
        exact hN6 false hq

def lex_scanner_line_j0 (o0_0 : List UInt8) (o0_1 : Int) (o0_5 : List S_api_Token) (o0_2_4 : List (List UInt8)) : R ((List UInt8) × Int × (List (List UInt8)) × Bool × Bool × (List S_api_Token)) :=
  R.ok (o0_0, o0_1, o0_2_4, false, false, o0_5)
def lex_scanner_line (o0_0 : List UInt8) (o0_1 : Int) (o0_2 : List (List UInt8)) (o0_3 : Bool) (o0_4 : Bool) (o0_5 : List S_api_Token) : R ((List UInt8) × Int × (List (List UInt8)) × Bool × Bool × (List S_api_Token)) :=
  if o0_4 = true then (lex_scanner_line_j0 o0_0 o0_1 o0_5 o0_2) else (if 0 ≤ 0 ∧ 0 ≤ (List.length o0_2 : Int) then (lex_scanner_line_j0 o0_0 o0_1 o0_5 []) else R.stuck)
theorem lex_scanner_line_call {h : H} {o0_0 : List UInt8} {o0_1 : Int} {o0_2_g : Option Value} {o0_2 : List (List UInt8)} {o0_3 : Bool} {o0_4 : Bool} {o0_5 : List S_api_Token} {Q : Out → H → Prop} {id0 : Nat} (h00 : h[id0]? = some (.cells 42 [.str o0_0, .int .i64 o0_1, .pri o0_2_g 9 1 (List.map V.str o0_2), .bool o0_3, .bool o0_4, .own 29 5 (List.map S_api_Token.enc o0_5)])) {KK : ((List UInt8) × Int × (List (List UInt8)) × Bool × Bool × (List S_api_Token)) → Prop} {X : V → Prop} (hq : (lex_scanner_line o0_0 o0_1 o0_2 o0_3 o0_4 o0_5).post KK X) (hK : ∀ r, KK r → ∀ (gg1 : Option Value), Q (.ret (.tup [])) (List.set h id0 (.cells 42 [.str r.1, .int .i64 r.2.1, .pri gg1 9 1 (List.map V.str r.2.2.1), .bool r.2.2.2.1, .bool r.2.2.2.2.1, .own 29 5 (List.map S_api_Token.enc r.2.2.2.2.2)]))) (hX : ∀ v, X v → False) : CA qprim 28 [.ref id0 0] h Q := by
  refine acalln hp Try.func28 rfl (by kernel_rfl) (n := 21) rfl (rs := []) rfl [0, 6] [11, 12] false (by simp) ?_
  unfold lex_scanner_line at hq
  simp only [initEnv, List.map_cons, List.map_nil, List.getD_cons_zero, List.getD_cons_succ, List.getD_nil, V.demote]
  have hlt0 : id0 < h.length := (List.getElem?_eq_some_iff.1 h00).1
  have hlen : ∀ (c0 : AObj), List.length (List.set h id0 c0) = h.length := by intros; simp only [List.length_set]
  have hg0 : ∀ (c0 : AObj), ((List.set h id0 c0) : List AObj)[id0]? = some c0 := by intros; simp [List.getElem?_set, hlt0]
  have hgl0 : ∀ (c0 : AObj) (L : List AObj), ((List.set h id0 c0) ++ L)[id0]? = some c0 := by intros; rw [List.getElem?_append_left (by rw [hlen]; exact hlt0)]; exact hg0 _
  have hs0 : ∀ (c0 : AObj) (x : AObj), List.set (List.set h id0 c0) id0 x = (List.set h id0 x) := by intros; simp only [List.set_set]
  have hsl0 : ∀ (c0 : AObj) (x : AObj) (L : List AObj), List.set ((List.set h id0 c0) ++ L) id0 x = (List.set h id0 x) ++ L := by intros; rw [List.set_append_left _ _ (by rw [hlen]; exact hlt0), hs0]
  have hgL : ∀ (c0 : AObj) (L : List AObj) (j : Nat), ((List.set h id0 c0) ++ L)[h.length + j]? = L[j]? := by intro c0 L j; have := get_loc (h := (List.set h id0 c0)) (L := L) (j := j); rwa [hlen] at this
  have hgL0 : ∀ (c0 : AObj) (L : List AObj), ((List.set h id0 c0) ++ L)[h.length]? = L[0]? := fun c0 L => hgL c0 L 0
  have hsL : ∀ (c0 : AObj) (L : List AObj) (j : Nat) (x : AObj), List.set ((List.set h id0 c0) ++ L) (h.length + j) x = (List.set h id0 c0) ++ List.set L j x := by intro c0 L j x; have := set_loc (h := (List.set h id0 c0)) (L := L) (j := j) (o := x); rwa [hlen] at this
  have hsL0 : ∀ (c0 : AObj) (L : List AObj) (x : AObj), List.set ((List.set h id0 c0) ++ L) h.length x = (List.set h id0 c0) ++ List.set L 0 x := fun c0 L x => hsL c0 L 0 x
  refine wp_heap (h' := (List.set h id0 (.cells 42 [.str o0_0, .int .i64 o0_1, .pri o0_2_g 9 1 (List.map V.str o0_2), .bool o0_3, .bool o0_4, .own 29 5 (List.map S_api_Token.enc o0_5)]))) (by rw [set_same h00]) ?_
  refine seq_gen (acall_mono hp) (σ := V × (Option Value) × (List (List UInt8))) (fun s => [(0, .ref id0 0), (6, s.1)]) (fun s => (List.set h id0 (.cells 42 [.str o0_0, .int .i64 o0_1, .pri s.2.1 9 1 (List.map V.str s.2.2), .bool o0_3, .bool o0_4, .own 29 5 (List.map S_api_Token.enc o0_5)]))) (fun s => (lex_scanner_line_j0 o0_0 o0_1 o0_5 s.2.2).post KK X) (fun s hq => ?_) (fun N hN5 => ?_)
  · obtain ⟨y6_4, o0_2_4_g, o0_2_4⟩ := s
    try dsimp only at hq ⊢
    unfold lex_scanner_line_j0 at hq
    rw [wp_region]
    simp only [RC, RL, RM, ↓evs_eq, loadN, sliceOp, cut, upon_each, buildOk, lookup, lookV, update, elemOf, Option.isSome_map, unOp, wanted, aop, tkB, neD, Env.get, Env.put, Env.keep, putD, dstOk, ev, constV, nilSlice, V.demote, V.toOwn, V.cells, ty, R1.res, binOp, isShift, binOpT, isC, intOp, strOp, shiftOp, byteV, index, indexAddr, slice, bounds, hiB, loB, withB, maxV, minV, evs, pickV, lenV, builtin, initEnv, convert, K.isU8, strOf, load, store, fieldOf, append, appT, fltOp, cpxV, realV, imagV, toInt, room, fill, placeOf, splice, repl, chunks, Ty.val, Ty.agg, V.plain, H.row, H.ety, AObj.row, Nat.reduceAdd, ↓reduceIte, Nat.reduceEqDiff, Nat.reduceBEq, Nat.reduceBNe, Nat.reduceLT, Int.reduceToNat, Int.reduceEq, Int.reduceLT, Int.reduceLE, reduceCtorEq, Nat.reduceMul, Nat.reduceLeDiff, S_api_Token.enc, hg0, hgl0, hs0, hsl0, hgL, hgL0, hsL, hsL0, hlen]
    simp only [retQ, results, resultAll, resultOne, Nat.zero_add, RC, RL, RM, ↓evs_eq, loadN, sliceOp, cut, upon_each, buildOk, lookup, lookV, update, elemOf, Option.isSome_map, unOp, wanted, aop, tkB, neD, Env.get, Env.put, Env.keep, putD, dstOk, ev, constV, nilSlice, V.demote, V.toOwn, V.cells, ty, R1.res, binOp, isShift, binOpT, isC, intOp, strOp, shiftOp, byteV, index, indexAddr, slice, bounds, hiB, loB, withB, maxV, minV, evs, pickV, lenV, builtin, initEnv, convert, K.isU8, strOf, load, store, fieldOf, append, appT, fltOp, cpxV, realV, imagV, toInt, room, fill, placeOf, splice, repl, chunks, Ty.val, Ty.agg, V.plain, H.row, H.ety, AObj.row, Nat.reduceAdd, ↓reduceIte, Nat.reduceEqDiff, Nat.reduceBEq, Nat.reduceBNe, Nat.reduceLT, Int.reduceToNat, Int.reduceEq, Int.reduceLT, Int.reduceLE, reduceCtorEq, Nat.reduceMul, Nat.reduceLeDiff, S_api_Token.enc, hg0, hgl0, hs0, hsl0, hgL, hgL0, hsL, hsL0, hlen]
    refine ⟨_, (.refl _), ?_⟩
    exact hK _ hq _
  · rw [wp_seq]
    rw [wp_region]
    simp only [RC, RL, RM, ↓evs_eq, loadN, sliceOp, cut, upon_each, buildOk, lookup, lookV, update, elemOf, Option.isSome_map, unOp, wanted, aop, tkB, neD, Env.get, Env.put, Env.keep, putD, dstOk, ev, constV, nilSlice, V.demote, V.toOwn, V.cells, ty, R1.res, binOp, isShift, binOpT, isC, intOp, strOp, shiftOp, byteV, index, indexAddr, slice, bounds, hiB, loB, withB, maxV, minV, evs, pickV, lenV, builtin, initEnv, convert, K.isU8, strOf, load, store, fieldOf, append, appT, fltOp, cpxV, realV, imagV, toInt, room, fill, placeOf, splice, repl, chunks, Ty.val, Ty.agg, V.plain, H.row, H.ety, AObj.row, Nat.reduceAdd, ↓reduceIte, Nat.reduceEqDiff, Nat.reduceBEq, Nat.reduceBNe, Nat.reduceLT, Int.reduceToNat, Int.reduceEq, Int.reduceLT, Int.reduceLE, reduceCtorEq, Nat.reduceMul, Nat.reduceLeDiff, S_api_Token.enc, hg0, hgl0, hs0, hsl0, hgL, hgL0, hsL, hsL0, hlen]
    rw [wp_cond]
    simp only [RC, RL, RM, ↓evs_eq, loadN, sliceOp, cut, upon_each, buildOk, lookup, lookV, update, elemOf, Option.isSome_map, unOp, wanted, aop, tkB, neD, Env.get, Env.put, Env.keep, putD, dstOk, ev, constV, nilSlice, V.demote, V.toOwn, V.cells, ty, R1.res, binOp, isShift, binOpT, isC, intOp, strOp, shiftOp, byteV, index, indexAddr, slice, bounds, hiB, loB, withB, maxV, minV, evs, pickV, lenV, builtin, initEnv, convert, K.isU8, strOf, load, store, fieldOf, append, appT, fltOp, cpxV, realV, imagV, toInt, room, fill, placeOf, splice, repl, chunks, Ty.val, Ty.agg, V.plain, H.row, H.ety, AObj.row, Nat.reduceAdd, ↓reduceIte, Nat.reduceEqDiff, Nat.reduceBEq, Nat.reduceBNe, Nat.reduceLT, Int.reduceToNat, Int.reduceEq, Int.reduceLT, Int.reduceLE, reduceCtorEq, Nat.reduceMul, Nat.reduceLeDiff, S_api_Token.enc, hg0, hgl0, hs0, hsl0, hgL, hgL0, hsL, hsL0, hlen]
    by_cases hc6 : o0_4 = true
    · replace hq := (R.post_if hq).1 hc6
      refine condK_f (congrArg (fun b => V.bool (!b)) (hc6)) ?_
      try simp only [wp_skip, RC]
      refine Wk.le (EnvLe.cons (.refl _) (EnvLe.cons (.top _) EnvLe.nil)) ?_
      try simp only [RC]
      exact hN5 (_, _, o0_2) hq
    · replace hq := (R.post_if hq).2 hc6
      replace hc6 := eq_false_of_ne_true hc6
      refine condK_t (congrArg (fun b => V.bool (!b)) (hc6)) ?_
      rw [wp_region]
      obtain ⟨g8, hq⟩ := R.guard hq
      simp only [RC, RL, RM, ↓evs_eq, loadN, sliceOp, cut, upon_each, buildOk, lookup, lookV, update, elemOf, Option.isSome_map, unOp, wanted, aop, tkB, neD, Env.get, Env.put, Env.keep, putD, dstOk, ev, constV, nilSlice, V.demote, V.toOwn, V.cells, ty, R1.res, binOp, isShift, binOpT, isC, intOp, strOp, shiftOp, byteV, index, indexAddr, slice, bounds, hiB, loB, withB, maxV, minV, evs, pickV, lenV, builtin, initEnv, convert, K.isU8, strOf, load, store, fieldOf, append, appT, fltOp, cpxV, realV, imagV, toInt, room, fill, placeOf, splice, repl, chunks, Ty.val, Ty.agg, V.plain, H.row, H.ety, AObj.row, Nat.reduceAdd, ↓reduceIte, Nat.reduceEqDiff, Nat.reduceBEq, Nat.reduceBNe, Nat.reduceLT, Int.reduceToNat, Int.reduceEq, Int.reduceLT, Int.reduceLE, reduceCtorEq, Nat.reduceMul, Nat.reduceLeDiff, S_api_Token.enc, hg0, hgl0, hs0, hsl0, hgL, hgL0, hsL, hsL0, hlen]
      repeat (with_reducible refine And.intro (by first | omega | assumption) ?_)
      refine Wk.le (EnvLe.cons (.refl _) (EnvLe.cons (.top _) EnvLe.nil)) ?_
      try simp only [RC]
      exact hN5 (_, _, []) hq

def lex_scanner_blanks_j1 (self_lex_scanner_blanks_l0 : List UInt8 → Int → List (List UInt8) → Bool → Bool → List S_api_Token → R ((List UInt8) × Int × (List (List UInt8)) × Bool × Bool × (List S_api_Token))) (o0_0_76 : List UInt8) (o0_1_76 : Int) (o0_2_76 : List (List UInt8)) (o0_3_76 : Bool) (o0_4_76 : Bool) (o0_5_76 : List S_api_Token) : R ((List UInt8) × Int × (List (List UInt8)) × Bool × Bool × (List S_api_Token)) :=
  self_lex_scanner_blanks_l0 o0_0_76 (IntKind.wrap .i64 (o0_1_76 + 1)) o0_2_76 o0_3_76 o0_4_76 o0_5_76
def lex_scanner_blanks_l0 : Nat → List UInt8 → Int → List (List UInt8) → Bool → Bool → List S_api_Token → R ((List UInt8) × Int × (List (List UInt8)) × Bool × Bool × (List S_api_Token))
  | 0, _, _, _, _, _, _ => R.stuck
  | k + 1, o0_0_37, o0_1_37, o0_2_37, o0_3_37, o0_4_37, o0_5_37 => (if o0_1_37 < (List.length o0_0_37 : Int) then (if 0 ≤ o0_1_37 ∧ o0_1_37 < (List.length o0_0_37 : Int) then ((lex_blank (List.getD o0_0_37 (Int.toNat o0_1_37) 0)).sure.bind fun r71 => R.ok r71) else R.stuck) else (R.ok false)).bind fun x23m65 => if x23m65 = true then (if 0 ≤ o0_1_37 ∧ o0_1_37 < (List.length o0_0_37 : Int) then (if ((List.getD o0_0_37 (Int.toNat o0_1_37) 0).toNat : Int) = 10 then ((lex_scanner_line o0_0_37 o0_1_37 o0_2_37 o0_3_37 o0_4_37 o0_5_37).sure.bind fun r84 => lex_scanner_blanks_j1 (lex_scanner_blanks_l0 k) r84.1 r84.2.1 r84.2.2.1 r84.2.2.2.1 r84.2.2.2.2.1 r84.2.2.2.2.2) else (lex_scanner_blanks_j1 (lex_scanner_blanks_l0 k) o0_0_37 o0_1_37 o0_2_37 o0_3_37 o0_4_37 o0_5_37)) else R.stuck) else (R.ok (o0_0_37, o0_1_37, o0_2_37, o0_3_37, o0_4_37, o0_5_37))
def lex_scanner_blanks (o0_0 : List UInt8) (o0_1 : Int) (o0_2 : List (List UInt8)) (o0_3 : Bool) (o0_4 : Bool) (o0_5 : List S_api_Token) : R ((List UInt8) × Int × (List (List UInt8)) × Bool × Bool × (List S_api_Token)) :=
  (lex_scanner_blanks_l0 Many o0_0 o0_1 o0_2 o0_3 o0_4 o0_5).bind fun (o0_0p88, o0_1p88, o0_2p88, o0_3p88, o0_4p88, o0_5p88) => R.ok (o0_0p88, o0_1p88, o0_2p88, o0_3p88, o0_4p88, o0_5p88)
theorem lex_scanner_blanks_call {h : H} {o0_0 : List UInt8} {o0_1 : Int} {o0_2_g : Option Value} {o0_2 : List (List UInt8)} {o0_3 : Bool} {o0_4 : Bool} {o0_5 : List S_api_Token} {Q : Out → H → Prop} {id0 : Nat} (h00 : h[id0]? = some (.cells 42 [.str o0_0, .int .i64 o0_1, .pri o0_2_g 9 1 (List.map V.str o0_2), .bool o0_3, .bool o0_4, .own 29 5 (List.map S_api_Token.enc o0_5)])) {KK : ((List UInt8) × Int × (List (List UInt8)) × Bool × Bool × (List S_api_Token)) → Prop} {X : V → Prop} (hq : (lex_scanner_blanks o0_0 o0_1 o0_2 o0_3 o0_4 o0_5).post KK X) (hK : ∀ r, KK r → ∀ (gg18 : Option Value), Q (.ret (.tup [])) (List.set h id0 (.cells 42 [.str r.1, .int .i64 r.2.1, .pri gg18 9 1 (List.map V.str r.2.2.1), .bool r.2.2.2.1, .bool r.2.2.2.2.1, .own 29 5 (List.map S_api_Token.enc r.2.2.2.2.2)]))) (hX : ∀ v, X v → False) : CA qprim 15 [.ref id0 0] h Q := by
  refine acalln hp Try.func15 rfl (by kernel_rfl) (n := 43) rfl (rs := []) rfl [0, 23, 40] [] false (by simp) ?_
  unfold lex_scanner_blanks at hq
  simp only [initEnv, List.map_cons, List.map_nil, List.getD_cons_zero, List.getD_cons_succ, List.getD_nil, V.demote]
  have hlt0 : id0 < h.length := (List.getElem?_eq_some_iff.1 h00).1
  have hlen : ∀ (c0 : AObj), List.length (List.set h id0 c0) = h.length := by intros; simp only [List.length_set]
  have hg0 : ∀ (c0 : AObj), ((List.set h id0 c0) : List AObj)[id0]? = some c0 := by intros; simp [List.getElem?_set, hlt0]
  have hgl0 : ∀ (c0 : AObj) (L : List AObj), ((List.set h id0 c0) ++ L)[id0]? = some c0 := by intros; rw [List.getElem?_append_left (by rw [hlen]; exact hlt0)]; exact hg0 _
  have hs0 : ∀ (c0 : AObj) (x : AObj), List.set (List.set h id0 c0) id0 x = (List.set h id0 x) := by intros; simp only [List.set_set]
  have hsl0 : ∀ (c0 : AObj) (x : AObj) (L : List AObj), List.set ((List.set h id0 c0) ++ L) id0 x = (List.set h id0 x) ++ L := by intros; rw [List.set_append_left _ _ (by rw [hlen]; exact hlt0), hs0]
  have hgL : ∀ (c0 : AObj) (L : List AObj) (j : Nat), ((List.set h id0 c0) ++ L)[h.length + j]? = L[j]? := by intro c0 L j; have := get_loc (h := (List.set h id0 c0)) (L := L) (j := j); rwa [hlen] at this
  have hgL0 : ∀ (c0 : AObj) (L : List AObj), ((List.set h id0 c0) ++ L)[h.length]? = L[0]? := fun c0 L => hgL c0 L 0
  have hsL : ∀ (c0 : AObj) (L : List AObj) (j : Nat) (x : AObj), List.set ((List.set h id0 c0) ++ L) (h.length + j) x = (List.set h id0 c0) ++ List.set L j x := by intro c0 L j x; have := set_loc (h := (List.set h id0 c0)) (L := L) (j := j) (o := x); rwa [hlen] at this
  have hsL0 : ∀ (c0 : AObj) (L : List AObj) (x : AObj), List.set ((List.set h id0 c0) ++ L) h.length x = (List.set h id0 c0) ++ List.set L 0 x := fun c0 L x => hsL c0 L 0 x
  refine wp_heap (h' := (List.set h id0 (.cells 42 [.str o0_0, .int .i64 o0_1, .pri o0_2_g 9 1 (List.map V.str o0_2), .bool o0_3, .bool o0_4, .own 29 5 (List.map S_api_Token.enc o0_5)]))) (by rw [set_same h00]) ?_
  rw [wp_block]
  refine loop_in ?_
  refine Wk.same ?_
  obtain ⟨K56, hK57, hq⟩ := R.post_cut hq
  refine loop_gen (acall_mono hp) (σ := V × V × (List UInt8) × Int × (Option Value) × (List (List UInt8)) × Bool × Bool × (List S_api_Token)) (fun s => [(0, .ref id0 0), (23, s.1), (40, s.2.1)]) (fun s => (List.set h id0 (.cells 42 [.str s.2.2.1, .int .i64 s.2.2.2.1, .pri s.2.2.2.2.1 9 1 (List.map V.str s.2.2.2.2.2.1), .bool s.2.2.2.2.2.2.1, .bool s.2.2.2.2.2.2.2.1, .own 29 5 (List.map S_api_Token.enc s.2.2.2.2.2.2.2.2)]))) (fun k s => (lex_scanner_blanks_l0 k s.2.2.1 s.2.2.2.1 s.2.2.2.2.2.1 s.2.2.2.2.2.2.1 s.2.2.2.2.2.2.2.1 s.2.2.2.2.2.2.2.2).post K56 X) (fun s hs => hs) (fun k87 s hq N hN58 => ?_) _ (_, _, o0_0, o0_1, _, o0_2, o0_3, o0_4, o0_5) hq
  obtain ⟨y23_37, y40_37, o0_0_37, o0_1_37, o0_2_37_g, o0_2_37, o0_3_37, o0_4_37, o0_5_37⟩ := s
  try dsimp only at hq ⊢
  rw [lex_scanner_blanks_l0] at hq
  rw [wp_seq]
  obtain ⟨K66, hK67, hq⟩ := R.post_cut hq
  refine seq_gen (acall_mono hp) (σ := Bool) (fun s => [(0, .ref id0 0), (23, .bool s), (40, y40_37)]) (fun s => (List.set h id0 (.cells 42 [.str o0_0_37, .int .i64 o0_1_37, .pri o0_2_37_g 9 1 (List.map V.str o0_2_37), .bool o0_3_37, .bool o0_4_37, .own 29 5 (List.map S_api_Token.enc o0_5_37)]))) (fun s => K66 s) (fun x23m65 hq => ?_) (fun N hN68 => ?_)
  · replace hq := hK67 _ hq
    try dsimp only at hq ⊢
    rw [wp_cond]
    simp only [RC, RL, RM, ↓evs_eq, loadN, sliceOp, cut, upon_each, buildOk, lookup, lookV, update, elemOf, Option.isSome_map, unOp, wanted, aop, tkB, neD, Env.get, Env.put, Env.keep, putD, dstOk, ev, constV, nilSlice, V.demote, V.toOwn, V.cells, ty, R1.res, binOp, isShift, binOpT, isC, intOp, strOp, shiftOp, byteV, index, indexAddr, slice, bounds, hiB, loB, withB, maxV, minV, evs, pickV, lenV, builtin, initEnv, convert, K.isU8, strOf, load, store, fieldOf, append, appT, fltOp, cpxV, realV, imagV, toInt, room, fill, placeOf, splice, repl, chunks, Ty.val, Ty.agg, V.plain, H.row, H.ety, AObj.row, Nat.reduceAdd, ↓reduceIte, Nat.reduceEqDiff, Nat.reduceBEq, Nat.reduceBNe, Nat.reduceLT, Int.reduceToNat, Int.reduceEq, Int.reduceLT, Int.reduceLE, reduceCtorEq, Nat.reduceMul, Nat.reduceLeDiff, S_api_Token.enc, hg0, hgl0, hs0, hsl0, hgL, hgL0, hsL, hsL0, hlen]
    by_cases hc75 : x23m65 = true
    · replace hq := (R.post_if hq).1 hc75
      refine condK_t (congrArg V.bool (hc75)) ?_
      try simp only [wp_skip, RC]
      refine Wk.same ?_
      try simp only [RC]
      refine seq_gen (acall_mono hp) (σ := V × V × (List UInt8) × Int × (Option Value) × (List (List UInt8)) × Bool × Bool × (List S_api_Token)) (fun s => [(0, .ref id0 0), (23, s.1), (40, s.2.1)]) (fun s => (List.set h id0 (.cells 42 [.str s.2.2.1, .int .i64 s.2.2.2.1, .pri s.2.2.2.2.1 9 1 (List.map V.str s.2.2.2.2.2.1), .bool s.2.2.2.2.2.2.1, .bool s.2.2.2.2.2.2.2.1, .own 29 5 (List.map S_api_Token.enc s.2.2.2.2.2.2.2.2)]))) (fun s => (lex_scanner_blanks_j1 (lex_scanner_blanks_l0 k87) s.2.2.1 s.2.2.2.1 s.2.2.2.2.2.1 s.2.2.2.2.2.2.1 s.2.2.2.2.2.2.2.1 s.2.2.2.2.2.2.2.2).post K56 X) (fun s hq => ?_) (fun N hN77 => ?_)
      · obtain ⟨y23_76, y40_76, o0_0_76, o0_1_76, o0_2_76_g, o0_2_76, o0_3_76, o0_4_76, o0_5_76⟩ := s
        try dsimp only at hq ⊢
        unfold lex_scanner_blanks_j1 at hq
        rw [wp_region]
        simp only [RC, RL, RM, ↓evs_eq, loadN, sliceOp, cut, upon_each, buildOk, lookup, lookV, update, elemOf, Option.isSome_map, unOp, wanted, aop, tkB, neD, Env.get, Env.put, Env.keep, putD, dstOk, ev, constV, nilSlice, V.demote, V.toOwn, V.cells, ty, R1.res, binOp, isShift, binOpT, isC, intOp, strOp, shiftOp, byteV, index, indexAddr, slice, bounds, hiB, loB, withB, maxV, minV, evs, pickV, lenV, builtin, initEnv, convert, K.isU8, strOf, load, store, fieldOf, append, appT, fltOp, cpxV, realV, imagV, toInt, room, fill, placeOf, splice, repl, chunks, Ty.val, Ty.agg, V.plain, H.row, H.ety, AObj.row, Nat.reduceAdd, ↓reduceIte, Nat.reduceEqDiff, Nat.reduceBEq, Nat.reduceBNe, Nat.reduceLT, Int.reduceToNat, Int.reduceEq, Int.reduceLT, Int.reduceLE, reduceCtorEq, Nat.reduceMul, Nat.reduceLeDiff, S_api_Token.enc, hg0, hgl0, hs0, hsl0, hgL, hgL0, hsL, hsL0, hlen]
        refine Wk.same ?_
        exact hN58 (_, _, o0_0_76, (IntKind.wrap .i64 (o0_1_76 + 1)), _, o0_2_76, o0_3_76, o0_4_76, o0_5_76) hq
      · rw [wp_block]
        rw [wp_seq]
        refine wp_draw (acall_mono hp) (by kernel_rfl) (by rfl) ?_
        obtain ⟨g79, hq⟩ := R.guard hq
        simp only [RC, RL, RM, ↓evs_eq, loadN, sliceOp, cut, upon_each, buildOk, lookup, lookV, update, elemOf, Option.isSome_map, unOp, wanted, aop, tkB, neD, Env.get, Env.put, Env.keep, putD, dstOk, ev, constV, nilSlice, V.demote, V.toOwn, V.cells, ty, R1.res, binOp, isShift, binOpT, isC, intOp, strOp, shiftOp, byteV, index, indexAddr, slice, bounds, hiB, loB, withB, maxV, minV, evs, pickV, lenV, builtin, initEnv, convert, K.isU8, strOf, load, store, fieldOf, append, appT, fltOp, cpxV, realV, imagV, toInt, room, fill, placeOf, splice, repl, chunks, Ty.val, Ty.agg, V.plain, H.row, H.ety, AObj.row, Nat.reduceAdd, ↓reduceIte, Nat.reduceEqDiff, Nat.reduceBEq, Nat.reduceBNe, Nat.reduceLT, Int.reduceToNat, Int.reduceEq, Int.reduceLT, Int.reduceLE, reduceCtorEq, Nat.reduceMul, Nat.reduceLeDiff, S_api_Token.enc, hg0, hgl0, hs0, hsl0, hgL, hgL0, hsL, hsL0, hlen]
        repeat (with_reducible refine And.intro (by first | omega | assumption) ?_)
        rw [wp_cond]
        simp only [RC, RL, RM, ↓evs_eq, loadN, sliceOp, cut, upon_each, buildOk, lookup, lookV, update, elemOf, Option.isSome_map, unOp, wanted, aop, tkB, neD, Env.get, Env.put, Env.keep, putD, dstOk, ev, constV, nilSlice, V.demote, V.toOwn, V.cells, ty, R1.res, binOp, isShift, binOpT, isC, intOp, strOp, shiftOp, byteV, index, indexAddr, slice, bounds, hiB, loB, withB, maxV, minV, evs, pickV, lenV, builtin, initEnv, convert, K.isU8, strOf, load, store, fieldOf, append, appT, fltOp, cpxV, realV, imagV, toInt, room, fill, placeOf, splice, repl, chunks, Ty.val, Ty.agg, V.plain, H.row, H.ety, AObj.row, Nat.reduceAdd, ↓reduceIte, Nat.reduceEqDiff, Nat.reduceBEq, Nat.reduceBNe, Nat.reduceLT, Int.reduceToNat, Int.reduceEq, Int.reduceLT, Int.reduceLE, reduceCtorEq, Nat.reduceMul, Nat.reduceLeDiff, S_api_Token.enc, hg0, hgl0, hs0, hsl0, hgL, hgL0, hsL, hsL0, hlen]
        by_cases hc80 : ((List.getD o0_0_37 (Int.toNat o0_1_37) 0).toNat : Int) = 10
        · replace hq := (R.post_if hq).1 hc80
          refine condK_t (congrArg V.bool (decide_eq_true hc80)) ?_
          rw [wp_region]
          simp only [RC, RL, RM, ↓evs_eq, loadN, sliceOp, cut, upon_each, buildOk, lookup, lookV, update, elemOf, Option.isSome_map, unOp, wanted, aop, tkB, neD, Env.get, Env.put, Env.keep, putD, dstOk, ev, constV, nilSlice, V.demote, V.toOwn, V.cells, ty, R1.res, binOp, isShift, binOpT, isC, intOp, strOp, shiftOp, byteV, index, indexAddr, slice, bounds, hiB, loB, withB, maxV, minV, evs, pickV, lenV, builtin, initEnv, convert, K.isU8, strOf, load, store, fieldOf, append, appT, fltOp, cpxV, realV, imagV, toInt, room, fill, placeOf, splice, repl, chunks, Ty.val, Ty.agg, V.plain, H.row, H.ety, AObj.row, Nat.reduceAdd, ↓reduceIte, Nat.reduceEqDiff, Nat.reduceBEq, Nat.reduceBNe, Nat.reduceLT, Int.reduceToNat, Int.reduceEq, Int.reduceLT, Int.reduceLE, reduceCtorEq, Nat.reduceMul, Nat.reduceLeDiff, S_api_Token.enc, hg0, hgl0, hs0, hsl0, hgL, hgL0, hsL, hsL0, hlen]
          obtain ⟨K85, hK86, hq⟩ := R.post_cut_sure hq
          refine lex_scanner_line_call (o0_0 := o0_0_37) (o0_1 := o0_1_37) (o0_2 := o0_2_37) (o0_3 := o0_3_37) (o0_4 := o0_4_37) (o0_5 := o0_5_37) (o0_2_g := o0_2_37_g) (id0 := id0) (by first | (simp only [RC, RL, RM, ↓evs_eq, loadN, sliceOp, cut, upon_each, buildOk, lookup, lookV, update, elemOf, Option.isSome_map, unOp, wanted, aop, tkB, neD, Env.get, Env.put, Env.keep, putD, dstOk, ev, constV, nilSlice, V.demote, V.toOwn, V.cells, ty, R1.res, binOp, isShift, binOpT, isC, intOp, strOp, shiftOp, byteV, index, indexAddr, slice, bounds, hiB, loB, withB, maxV, minV, evs, pickV, lenV, builtin, initEnv, convert, K.isU8, strOf, load, store, fieldOf, append, appT, fltOp, cpxV, realV, imagV, toInt, room, fill, placeOf, splice, repl, chunks, Ty.val, Ty.agg, V.plain, H.row, H.ety, AObj.row, Nat.reduceAdd, ↓reduceIte, Nat.reduceEqDiff, Nat.reduceBEq, Nat.reduceBNe, Nat.reduceLT, Int.reduceToNat, Int.reduceEq, Int.reduceLT, Int.reduceLE, reduceCtorEq, Nat.reduceMul, Nat.reduceLeDiff, S_api_Token.enc, hg0, hgl0, hs0, hsl0, hgL, hgL0, hsL, hsL0, hlen] <;> rfl) | assumption | rfl) hq (fun r84 hq gg17 => ?_) (fun v hv => hv.elim)
          replace hq := hK86 _ hq
          simp only [RC, RL, RM, ↓evs_eq, loadN, sliceOp, cut, upon_each, buildOk, lookup, lookV, update, elemOf, Option.isSome_map, unOp, wanted, aop, tkB, neD, Env.get, Env.put, Env.keep, putD, dstOk, ev, constV, nilSlice, V.demote, V.toOwn, V.cells, ty, R1.res, binOp, isShift, binOpT, isC, intOp, strOp, shiftOp, byteV, index, indexAddr, slice, bounds, hiB, loB, withB, maxV, minV, evs, pickV, lenV, builtin, initEnv, convert, K.isU8, strOf, load, store, fieldOf, append, appT, fltOp, cpxV, realV, imagV, toInt, room, fill, placeOf, splice, repl, chunks, Ty.val, Ty.agg, V.plain, H.row, H.ety, AObj.row, Nat.reduceAdd, ↓reduceIte, Nat.reduceEqDiff, Nat.reduceBEq, Nat.reduceBNe, Nat.reduceLT, Int.reduceToNat, Int.reduceEq, Int.reduceLT, Int.reduceLE, reduceCtorEq, Nat.reduceMul, Nat.reduceLeDiff, S_api_Token.enc, hg0, hgl0, hs0, hsl0, hgL, hgL0, hsL, hsL0, hlen]
          refine Wk.le (EnvLe.cons (.refl _) (EnvLe.cons (.top _) (EnvLe.cons (.top _) EnvLe.nil))) ?_
          try simp only [RC]
          refine Wk.same ?_
          try simp only [RC]
          exact hN77 (_, _, r84.1, r84.2.1, _, r84.2.2.1, r84.2.2.2.1, r84.2.2.2.2.1, r84.2.2.2.2.2) hq
        · replace hq := (R.post_if hq).2 hc80
          refine condK_f (congrArg V.bool (decide_eq_false hc80)) ?_
          try simp only [wp_skip, RC]
          refine Wk.le (EnvLe.cons (.refl _) (EnvLe.cons (.top _) (EnvLe.cons (.top _) EnvLe.nil))) ?_
          try simp only [RC]
          refine Wk.same ?_
          try simp only [RC]
          exact hN77 (_, _, o0_0_37, o0_1_37, _, o0_2_37, o0_3_37, o0_4_37, o0_5_37) hq
    · replace hq := (R.post_if hq).2 hc75
      replace hc75 := eq_false_of_ne_true hc75
      refine condK_f (congrArg V.bool (hc75)) ?_
      rw [wp_exit]
      try simp only [↓reduceIte, Nat.reduceEqDiff, reduceCtorEq, if_false, if_true, eq_self, Nat.succ_ne_self, RC]
      replace hq := hK57 _ hq
      try dsimp only at hq
      refine Wk.same ?_
      try simp only [RC]
      simp only [retQ, results, resultAll, resultOne, Nat.zero_add, RC, RL, RM, ↓evs_eq, loadN, sliceOp, cut, upon_each, buildOk, lookup, lookV, update, elemOf, Option.isSome_map, unOp, wanted, aop, tkB, neD, Env.get, Env.put, Env.keep, putD, dstOk, ev, constV, nilSlice, V.demote, V.toOwn, V.cells, ty, R1.res, binOp, isShift, binOpT, isC, intOp, strOp, shiftOp, byteV, index, indexAddr, slice, bounds, hiB, loB, withB, maxV, minV, evs, pickV, lenV, builtin, initEnv, convert, K.isU8, strOf, load, store, fieldOf, append, appT, fltOp, cpxV, realV, imagV, toInt, room, fill, placeOf, splice, repl, chunks, Ty.val, Ty.agg, V.plain, H.row, H.ety, AObj.row, Nat.reduceAdd, ↓reduceIte, Nat.reduceEqDiff, Nat.reduceBEq, Nat.reduceBNe, Nat.reduceLT, Int.reduceToNat, Int.reduceEq, Int.reduceLT, Int.reduceLE, reduceCtorEq, Nat.reduceMul, Nat.reduceLeDiff, S_api_Token.enc, hg0, hgl0, hs0, hsl0, hgL, hgL0, hsL, hsL0, hlen]
      refine ⟨_, (.refl _), ?_⟩
      exact hK _ hq _
  · refine wp_draw (acall_mono hp) (by kernel_rfl) (by rfl) ?_
    simp only [RC, RL, RM, ↓evs_eq, loadN, sliceOp, cut, upon_each, buildOk, lookup, lookV, update, elemOf, Option.isSome_map, unOp, wanted, aop, tkB, neD, Env.get, Env.put, Env.keep, putD, dstOk, ev, constV, nilSlice, V.demote, V.toOwn, V.cells, ty, R1.res, binOp, isShift, binOpT, isC, intOp, strOp, shiftOp, byteV, index, indexAddr, slice, bounds, hiB, loB, withB, maxV, minV, evs, pickV, lenV, builtin, initEnv, convert, K.isU8, strOf, load, store, fieldOf, append, appT, fltOp, cpxV, realV, imagV, toInt, room, fill, placeOf, splice, repl, chunks, Ty.val, Ty.agg, V.plain, H.row, H.ety, AObj.row, Nat.reduceAdd, ↓reduceIte, Nat.reduceEqDiff, Nat.reduceBEq, Nat.reduceBNe, Nat.reduceLT, Int.reduceToNat, Int.reduceEq, Int.reduceLT, Int.reduceLE, reduceCtorEq, Nat.reduceMul, Nat.reduceLeDiff, S_api_Token.enc, hg0, hgl0, hs0, hsl0, hgL, hgL0, hsL, hsL0, hlen]
    by_cases hc69 : o0_1_37 < (List.length o0_0_37 : Int)
    · replace hq := (R.post_if hq).1 hc69
      obtain ⟨g70, hq⟩ := R.guard hq
      simp only [decide_eq_true hc69, RC, RL, RM, ↓evs_eq, loadN, sliceOp, cut, upon_each, buildOk, lookup, lookV, update, elemOf, Option.isSome_map, unOp, wanted, aop, tkB, neD, Env.get, Env.put, Env.keep, putD, dstOk, ev, constV, nilSlice, V.demote, V.toOwn, V.cells, ty, R1.res, binOp, isShift, binOpT, isC, intOp, strOp, shiftOp, byteV, index, indexAddr, slice, bounds, hiB, loB, withB, maxV, minV, evs, pickV, lenV, builtin, initEnv, convert, K.isU8, strOf, load, store, fieldOf, append, appT, fltOp, cpxV, realV, imagV, toInt, room, fill, placeOf, splice, repl, chunks, Ty.val, Ty.agg, V.plain, H.row, H.ety, AObj.row, Nat.reduceAdd, ↓reduceIte, Nat.reduceEqDiff, Nat.reduceBEq, Nat.reduceBNe, Nat.reduceLT, Int.reduceToNat, Int.reduceEq, Int.reduceLT, Int.reduceLE, reduceCtorEq, Nat.reduceMul, Nat.reduceLeDiff, S_api_Token.enc, hg0, hgl0, hs0, hsl0, hgL, hgL0, hsL, hsL0, hlen]
      repeat (with_reducible refine And.intro (by first | omega | assumption) ?_)
      obtain ⟨K72, hK73, hq⟩ := R.post_cut_sure hq
      obtain ⟨r71, hr74, hq⟩ := R.post_okf hq
      refine ⟨.bool r71, fun Q hQ => lex_blank_call (x0 := (List.getD o0_0_37 (Int.toNat o0_1_37) 0)) (KK := fun a => a = r71) (X := fun _ => False) (by rw [hr74]; exact rfl) (fun a ha => by subst ha; exact hQ) (fun v hv => hv.elim), ?_⟩
      replace hq := hK73 _ hq
      simp only [RC, RL, RM, ↓evs_eq, loadN, sliceOp, cut, upon_each, buildOk, lookup, lookV, update, elemOf, Option.isSome_map, unOp, wanted, aop, tkB, neD, Env.get, Env.put, Env.keep, putD, dstOk, ev, constV, nilSlice, V.demote, V.toOwn, V.cells, ty, R1.res, binOp, isShift, binOpT, isC, intOp, strOp, shiftOp, byteV, index, indexAddr, slice, bounds, hiB, loB, withB, maxV, minV, evs, pickV, lenV, builtin, initEnv, convert, K.isU8, strOf, load, store, fieldOf, append, appT, fltOp, cpxV, realV, imagV, toInt, room, fill, placeOf, splice, repl, chunks, Ty.val, Ty.agg, V.plain, H.row, H.ety, AObj.row, Nat.reduceAdd, ↓reduceIte, Nat.reduceEqDiff, Nat.reduceBEq, Nat.reduceBNe, Nat.reduceLT, Int.reduceToNat, Int.reduceEq, Int.reduceLT, Int.reduceLE, reduceCtorEq, Nat.reduceMul, Nat.reduceLeDiff, S_api_Token.enc, hg0, hgl0, hs0, hsl0, hgL, hgL0, hsL, hsL0, hlen]
      exact hN68 r71 hq
    · replace hq := (R.post_if hq).2 hc69
      simp only [decide_eq_false hc69, RC, RL, RM, ↓evs_eq, loadN, sliceOp, cut, upon_each, buildOk, lookup, lookV, update, elemOf, Option.isSome_map, unOp, wanted, aop, tkB, neD, Env.get, Env.put, Env.keep, putD, dstOk, ev, constV, nilSlice, V.demote, V.toOwn, V.cells, ty, R1.res, binOp, isShift, binOpT, isC, intOp, strOp, shiftOp, byteV, index, indexAddr, slice, bounds, hiB, loB, withB, maxV, minV, evs, pickV, lenV, builtin, initEnv, convert, K.isU8, strOf, load, store, fieldOf, append, appT, fltOp, cpxV, realV, imagV, toInt, room, fill, placeOf, splice, repl, chunks, Ty.val, Ty.agg, V.plain, H.row, H.ety, AObj.row, Nat.reduceAdd, ↓reduceIte, Nat.reduceEqDiff, Nat.reduceBEq, Nat.reduceBNe, Nat.reduceLT, Int.reduceToNat, Int.reduceEq, Int.reduceLT, Int.reduceLE, reduceCtorEq, Nat.reduceMul, Nat.reduceLeDiff, S_api_Token.enc, hg0, hgl0, hs0, hsl0, hgL, hgL0, hsL, hsL0, hlen]
      exact hN68 false hq

def strings_Builder_WriteString (o0_0 : Bool) (o0_1 : List UInt8) (x1 : List UInt8) : R (Int × Bool × (List UInt8)) :=
  (strings_Builder_copyCheck o0_0 o0_1).sure.bind fun r4 => if List.length r4.2 + List.length x1 ≤ 1000000000 then (R.ok ((List.length x1 : Int), r4.1, (r4.2 ++ x1))) else R.stuck
theorem strings_Builder_WriteString_call {h : H} {o0_0 : Bool} {o0_1 : List UInt8} {x1 : List UInt8} {Q : Out → H → Prop} {id0 : Nat} (h00 : h[id0]? = some (.cells 49 [selfp id0 o0_0, .own 5 1 (List.map byteV o0_1)])) {KK : (Int × Bool × (List UInt8)) → Prop} {X : V → Prop} (hq : (strings_Builder_WriteString o0_0 o0_1 x1).post KK X) (hK : ∀ r, KK r → Q (.ret (.tup [.int .i64 r.1, .nili])) (List.set h id0 (.cells 49 [selfp id0 r.2.1, .own 5 1 (List.map byteV r.2.2)]))) (hX : ∀ v, X v → False) : CA qprim 22 [.ref id0 0, .str x1] h Q := by
  refine acalln hp Try.func22 rfl (by kernel_rfl) (n := 19) rfl (rs := [.tmp 4, .tmp 5]) rfl [0, 1, 4, 5] [12] false (by simp) ?_
  unfold strings_Builder_WriteString at hq
  simp only [initEnv, List.map_cons, List.map_nil, List.getD_cons_zero, List.getD_cons_succ, List.getD_nil, V.demote]
  have hlt0 : id0 < h.length := (List.getElem?_eq_some_iff.1 h00).1
  have hlen : ∀ (c0 : AObj), List.length (List.set h id0 c0) = h.length := by intros; simp only [List.length_set]
  have hg0 : ∀ (c0 : AObj), ((List.set h id0 c0) : List AObj)[id0]? = some c0 := by intros; simp [List.getElem?_set, hlt0]
  have hgl0 : ∀ (c0 : AObj) (L : List AObj), ((List.set h id0 c0) ++ L)[id0]? = some c0 := by intros; rw [List.getElem?_append_left (by rw [hlen]; exact hlt0)]; exact hg0 _
  have hs0 : ∀ (c0 : AObj) (x : AObj), List.set (List.set h id0 c0) id0 x = (List.set h id0 x) := by intros; simp only [List.set_set]
  have hsl0 : ∀ (c0 : AObj) (x : AObj) (L : List AObj), List.set ((List.set h id0 c0) ++ L) id0 x = (List.set h id0 x) ++ L := by intros; rw [List.set_append_left _ _ (by rw [hlen]; exact hlt0), hs0]
  have hgL : ∀ (c0 : AObj) (L : List AObj) (j : Nat), ((List.set h id0 c0) ++ L)[h.length + j]? = L[j]? := by intro c0 L j; have := get_loc (h := (List.set h id0 c0)) (L := L) (j := j); rwa [hlen] at this
  have hgL0 : ∀ (c0 : AObj) (L : List AObj), ((List.set h id0 c0) ++ L)[h.length]? = L[0]? := fun c0 L => hgL c0 L 0
  have hsL : ∀ (c0 : AObj) (L : List AObj) (j : Nat) (x : AObj), List.set ((List.set h id0 c0) ++ L) (h.length + j) x = (List.set h id0 c0) ++ List.set L j x := by intro c0 L j x; have := set_loc (h := (List.set h id0 c0)) (L := L) (j := j) (o := x); rwa [hlen] at this
  have hsL0 : ∀ (c0 : AObj) (L : List AObj) (x : AObj), List.set ((List.set h id0 c0) ++ L) h.length x = (List.set h id0 c0) ++ List.set L 0 x := fun c0 L x => hsL c0 L 0 x
  refine wp_heap (h' := (List.set h id0 (.cells 49 [selfp id0 o0_0, .own 5 1 (List.map byteV o0_1)]))) (by rw [set_same h00]) ?_
  rw [wp_seq]
  rw [wp_region]
  simp only [RC, RL, RM, ↓evs_eq, loadN, sliceOp, cut, upon_each, buildOk, lookup, lookV, update, elemOf, Option.isSome_map, unOp, wanted, aop, tkB, neD, Env.get, Env.put, Env.keep, putD, dstOk, ev, constV, nilSlice, V.demote, V.toOwn, V.cells, ty, R1.res, binOp, isShift, binOpT, isC, intOp, strOp, shiftOp, byteV, index, indexAddr, slice, bounds, hiB, loB, withB, maxV, minV, evs, pickV, lenV, builtin, initEnv, convert, K.isU8, strOf, load, store, fieldOf, append, appT, fltOp, cpxV, realV, imagV, toInt, room, fill, placeOf, splice, repl, chunks, Ty.val, Ty.agg, V.plain, H.row, H.ety, AObj.row, Nat.reduceAdd, ↓reduceIte, Nat.reduceEqDiff, Nat.reduceBEq, Nat.reduceBNe, Nat.reduceLT, Int.reduceToNat, Int.reduceEq, Int.reduceLT, Int.reduceLE, reduceCtorEq, Nat.reduceMul, Nat.reduceLeDiff, S_api_Token.enc, hg0, hgl0, hs0, hsl0, hgL, hgL0, hsL, hsL0, hlen]
  rw [wp_seq]
  rw [wp_region]
  simp only [RC, RL, RM, ↓evs_eq, loadN, sliceOp, cut, upon_each, buildOk, lookup, lookV, update, elemOf, Option.isSome_map, unOp, wanted, aop, tkB, neD, Env.get, Env.put, Env.keep, putD, dstOk, ev, constV, nilSlice, V.demote, V.toOwn, V.cells, ty, R1.res, binOp, isShift, binOpT, isC, intOp, strOp, shiftOp, byteV, index, indexAddr, slice, bounds, hiB, loB, withB, maxV, minV, evs, pickV, lenV, builtin, initEnv, convert, K.isU8, strOf, load, store, fieldOf, append, appT, fltOp, cpxV, realV, imagV, toInt, room, fill, placeOf, splice, repl, chunks, Ty.val, Ty.agg, V.plain, H.row, H.ety, AObj.row, Nat.reduceAdd, ↓reduceIte, Nat.reduceEqDiff, Nat.reduceBEq, Nat.reduceBNe, Nat.reduceLT, Int.reduceToNat, Int.reduceEq, Int.reduceLT, Int.reduceLE, reduceCtorEq, Nat.reduceMul, Nat.reduceLeDiff, S_api_Token.enc, hg0, hgl0, hs0, hsl0, hgL, hgL0, hsL, hsL0, hlen]
  obtain ⟨K7, hK8, hq⟩ := R.post_cut_sure hq
  refine strings_Builder_copyCheck_call (o0_0 := o0_0) (o0_1 := o0_1) (id0 := id0) (by first | (simp only [RC, RL, RM, ↓evs_eq, loadN, sliceOp, cut, upon_each, buildOk, lookup, lookV, update, elemOf, Option.isSome_map, unOp, wanted, aop, tkB, neD, Env.get, Env.put, Env.keep, putD, dstOk, ev, constV, nilSlice, V.demote, V.toOwn, V.cells, ty, R1.res, binOp, isShift, binOpT, isC, intOp, strOp, shiftOp, byteV, index, indexAddr, slice, bounds, hiB, loB, withB, maxV, minV, evs, pickV, lenV, builtin, initEnv, convert, K.isU8, strOf, load, store, fieldOf, append, appT, fltOp, cpxV, realV, imagV, toInt, room, fill, placeOf, splice, repl, chunks, Ty.val, Ty.agg, V.plain, H.row, H.ety, AObj.row, Nat.reduceAdd, ↓reduceIte, Nat.reduceEqDiff, Nat.reduceBEq, Nat.reduceBNe, Nat.reduceLT, Int.reduceToNat, Int.reduceEq, Int.reduceLT, Int.reduceLE, reduceCtorEq, Nat.reduceMul, Nat.reduceLeDiff, S_api_Token.enc, hg0, hgl0, hs0, hsl0, hgL, hgL0, hsL, hsL0, hlen] <;> rfl) | assumption | rfl) hq (fun r4 hq => ?_) (fun v hv => hv.elim)
  replace hq := hK8 _ hq
  simp only [RC, RL, RM, ↓evs_eq, loadN, sliceOp, cut, upon_each, buildOk, lookup, lookV, update, elemOf, Option.isSome_map, unOp, wanted, aop, tkB, neD, Env.get, Env.put, Env.keep, putD, dstOk, ev, constV, nilSlice, V.demote, V.toOwn, V.cells, ty, R1.res, binOp, isShift, binOpT, isC, intOp, strOp, shiftOp, byteV, index, indexAddr, slice, bounds, hiB, loB, withB, maxV, minV, evs, pickV, lenV, builtin, initEnv, convert, K.isU8, strOf, load, store, fieldOf, append, appT, fltOp, cpxV, realV, imagV, toInt, room, fill, placeOf, splice, repl, chunks, Ty.val, Ty.agg, V.plain, H.row, H.ety, AObj.row, Nat.reduceAdd, ↓reduceIte, Nat.reduceEqDiff, Nat.reduceBEq, Nat.reduceBNe, Nat.reduceLT, Int.reduceToNat, Int.reduceEq, Int.reduceLT, Int.reduceLE, reduceCtorEq, Nat.reduceMul, Nat.reduceLeDiff, S_api_Token.enc, hg0, hgl0, hs0, hsl0, hgL, hgL0, hsL, hsL0, hlen]
  rw [wp_seq]
  rw [wp_region]
  obtain ⟨g6, hq⟩ := R.guard hq
  simp only [RC, RL, RM, ↓evs_eq, loadN, sliceOp, cut, upon_each, buildOk, lookup, lookV, update, elemOf, Option.isSome_map, unOp, wanted, aop, tkB, neD, Env.get, Env.put, Env.keep, putD, dstOk, ev, constV, nilSlice, V.demote, V.toOwn, V.cells, ty, R1.res, binOp, isShift, binOpT, isC, intOp, strOp, shiftOp, byteV, index, indexAddr, slice, bounds, hiB, loB, withB, maxV, minV, evs, pickV, lenV, builtin, initEnv, convert, K.isU8, strOf, load, store, fieldOf, append, appT, fltOp, cpxV, realV, imagV, toInt, room, fill, placeOf, splice, repl, chunks, Ty.val, Ty.agg, V.plain, H.row, H.ety, AObj.row, Nat.reduceAdd, ↓reduceIte, Nat.reduceEqDiff, Nat.reduceBEq, Nat.reduceBNe, Nat.reduceLT, Int.reduceToNat, Int.reduceEq, Int.reduceLT, Int.reduceLE, reduceCtorEq, Nat.reduceMul, Nat.reduceLeDiff, S_api_Token.enc, hg0, hgl0, hs0, hsl0, hgL, hgL0, hsL, hsL0, hlen]
  repeat (with_reducible refine And.intro (by first | omega | assumption) ?_)
  rw [wp_seq]
  rw [wp_region]
  simp only [RC, RL, RM, ↓evs_eq, loadN, sliceOp, cut, upon_each, buildOk, lookup, lookV, update, elemOf, Option.isSome_map, unOp, wanted, aop, tkB, neD, Env.get, Env.put, Env.keep, putD, dstOk, ev, constV, nilSlice, V.demote, V.toOwn, V.cells, ty, R1.res, binOp, isShift, binOpT, isC, intOp, strOp, shiftOp, byteV, index, indexAddr, slice, bounds, hiB, loB, withB, maxV, minV, evs, pickV, lenV, builtin, initEnv, convert, K.isU8, strOf, load, store, fieldOf, append, appT, fltOp, cpxV, realV, imagV, toInt, room, fill, placeOf, splice, repl, chunks, Ty.val, Ty.agg, V.plain, H.row, H.ety, AObj.row, Nat.reduceAdd, ↓reduceIte, Nat.reduceEqDiff, Nat.reduceBEq, Nat.reduceBNe, Nat.reduceLT, Int.reduceToNat, Int.reduceEq, Int.reduceLT, Int.reduceLE, reduceCtorEq, Nat.reduceMul, Nat.reduceLeDiff, S_api_Token.enc, hg0, hgl0, hs0, hsl0, hgL, hgL0, hsL, hsL0, hlen]
  rw [wp_ret]
  simp only [retQ, results, resultAll, resultOne, Nat.zero_add, RC, RL, RM, ↓evs_eq, loadN, sliceOp, cut, upon_each, buildOk, lookup, lookV, update, elemOf, Option.isSome_map, unOp, wanted, aop, tkB, neD, Env.get, Env.put, Env.keep, putD, dstOk, ev, constV, nilSlice, V.demote, V.toOwn, V.cells, ty, R1.res, binOp, isShift, binOpT, isC, intOp, strOp, shiftOp, byteV, index, indexAddr, slice, bounds, hiB, loB, withB, maxV, minV, evs, pickV, lenV, builtin, initEnv, convert, K.isU8, strOf, load, store, fieldOf, append, appT, fltOp, cpxV, realV, imagV, toInt, room, fill, placeOf, splice, repl, chunks, Ty.val, Ty.agg, V.plain, H.row, H.ety, AObj.row, Nat.reduceAdd, ↓reduceIte, Nat.reduceEqDiff, Nat.reduceBEq, Nat.reduceBNe, Nat.reduceLT, Int.reduceToNat, Int.reduceEq, Int.reduceLT, Int.reduceLE, reduceCtorEq, Nat.reduceMul, Nat.reduceLeDiff, S_api_Token.enc, hg0, hgl0, hs0, hsl0, hgL, hgL0, hsL, hsL0, hlen]
  refine ⟨_, (.refl _), ?_⟩
  exact hK _ hq
end Go.Proofs.Ytblbbmlppmpmjaa.Pv
