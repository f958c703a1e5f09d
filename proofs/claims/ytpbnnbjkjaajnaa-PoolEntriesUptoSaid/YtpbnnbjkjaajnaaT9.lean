/- Functions of the program, as plain Lean functions, and that the code comes to them: printed by gen.py. Functions of the program, as plain Lean functions, and that the code comes to them: printed by gen.py. -/
import Derived.Test.YtpbnnbjkjaajnaaTP
set_option linter.unusedVariables false
set_option linter.unusedSimpArgs false
set_option maxHeartbeats 4000000
set_option maxRecDepth 10000
namespace Go.Proofs.Ytpbnnbjkjaajnaa.Pv.T
open Go Go.Proofs

structure S_api_Raw where
  Num : Int
  Kind : Int
  N : Int
  B : List UInt8
  deriving Inhabited, DecidableEq
abbrev S_api_Raw.enc (x : S_api_Raw) : V := .agg [.int .i64 x.Num, .int .i64 x.Kind, .int .u64 x.N, .sl 1 (List.map byteV x.B)]
theorem S_api_Raw.cl (m : Nat) (x : S_api_Raw) : V.Cl m (S_api_Raw.enc x) := .agg _ (cl_cons (.int _ _) (cl_cons (.int _ _) (cl_cons (.int _ _) (cl_cons (.sl _ _ (cl_map (fun x => cl_byte x))) cl_nil))))
end Go.Proofs.Ytpbnnbjkjaajnaa.Pv.T
set_option linter.unusedVariables false
set_option linter.unusedSimpArgs false
set_option maxHeartbeats 4000000
set_option maxRecDepth 10000
namespace Go.Proofs.Ytpbnnbjkjaajnaa.Pv.T
open Go Go.Proofs

attribute [local go_sem] RC RL RM roundK_x roundK_g roundK_r loadN V.slz V.slz1 lnB V.left V.lenOf slice3 sliceNil Option.getD_none Option.getD_some sliceOp cut upon_each nextM entryOp buildOk lookup lookV update elemOf Option.isSome_map unOp wanted aop tkB rwB neD Env.get Env.put Env.keep putD dstOk ev constV nilSlice V.demote V.toOwn V.asOwn V.cells tyE R1.res binOp isShift binOpT isC intOp strOp shiftOp byteV index indexAddr slice bounds hiB loB withB maxV minV evs pickV lenV builtin initEnv convert K.isU8 strOf load store fieldOf append appT fltOp cpxV realV imagV toInt rangeOp nextOp room fill placeOf splice repl chunks Ty.val Ty.agg V.plain H.row H.ety AObj.row putAll demEnv updH S_api_Raw.enc
def varint_Take_l0 (x0 : List UInt8) : Nat → Int → Int → R (Int × Int × Int)
  | 0, _, _ => R.stuck
  | k + 1, x5_1, x6_1 => (if x6_1 = (List.length x0 : Int) then (R.ok true) else (R.ok (decide (x6_1 = 10)))).bind fun x15m30 => if x15m30 = true then (R.ok (0, 0, 10)) else (if 0 ≤ x6_1 ∧ x6_1 < (List.length x0 : Int) then ((if x6_1 = 9 then (R.ok (decide ((1 : Int) < ((gt x0 x6_1).toNat : Int)))) else (R.ok false)).bind fun x25m41 => if x25m41 = true then (R.ok (0, 0, 10)) else (if 0 ≤ (IntKind.wrap .i64 (7 * x6_1)) then (if ((u8 (bitsV .and .u8 ((gt x0 x6_1).toNat : Int) 128)).toNat : Int) = 0 then (R.ok ((bitsV .or .u64 x5_1 (IntKind.wrap .u64 ((IntKind.wrap .u64 ((u8 (bitsV .and .u8 ((gt x0 x6_1).toNat : Int) 127)).toNat : Int)) * 2 ^ (min (Int.toNat (IntKind.wrap .i64 (7 * x6_1))) 64)))), (IntKind.wrap .i64 (x6_1 + 1)), 0)) else (varint_Take_l0 x0 k (bitsV .or .u64 x5_1 (IntKind.wrap .u64 ((IntKind.wrap .u64 ((u8 (bitsV .and .u8 ((gt x0 x6_1).toNat : Int) 127)).toNat : Int)) * 2 ^ (min (Int.toNat (IntKind.wrap .i64 (7 * x6_1))) 64)))) (IntKind.wrap .i64 (x6_1 + 1)))) else R.stuck)) else R.stuck)
def varint_Take (x0 : List UInt8) : R (Int × Int × Int) :=
  varint_Take_l0 x0 Many 0 0
theorem varint_Take_call {h : H} {x0 : List UInt8} {Q : Out → H → Prop} {KK : (Int × Int × Int) → Prop} {X : V → Prop} (hq : (varint_Take x0).post KK X) (hK : ∀ r, KK r → Q (.ret (.tup [.int .u64 r.1, .int .i64 r.2.1, .int .i64 r.2.2])) h) (hX : ∀ v, X v → V.Cl 0 v ∧ Q (.panic v) h) : CA tprim 105 [.sl 1 (List.map byteV x0)] h Q := by
  refine acalln tp Try.func105 rfl (by kernel_rfl) (n := 41) rfl (rs := [.tmp 2, .tmp 3, .tmp 4]) rfl [0, 2, 3, 4, 5, 6, 7, 15, 25, 38] [] false (by simp) ?_
  unfold varint_Take at hq
  simp only [initEnv, List.map_cons, List.map_nil, List.getD_cons_zero, List.getD_cons_succ, List.getD_nil, V.demote]
  rw [wp_seq]
  refine wp_region_i (by rfl) ?_
  simp only [go_sem, ↓evs_eq, Nat.reduceAdd, ↓reduceIte, Nat.reduceEqDiff, Nat.reduceBEq, Nat.reduceBNe, Nat.reduceLT, Int.reduceToNat, Int.reduceEq, Int.reduceLT, Int.reduceLE, reduceCtorEq, Nat.reduceMul, Nat.reduceLeDiff]
  refine scope_gen (acall_mono tp) (σ := V × V × V × Int × Int × V × V × V × V) 0 (fun s => [(0, .sl 1 (List.map byteV x0)), (2, s.1), (3, s.2.1), (4, s.2.2.1), (5, .int .u64 s.2.2.2.1), (6, .int .i64 s.2.2.2.2.1), (7, s.2.2.2.2.2.1), (15, s.2.2.2.2.2.2.1), (25, s.2.2.2.2.2.2.2.1), (38, s.2.2.2.2.2.2.2.2)]) (fun s => h) (fun k s => (varint_Take_l0 x0 k s.2.2.2.1 s.2.2.2.2.1).post KK X) (fun s hs => hs) (fun k54 s hq N hN28 => ?_) (fun hS55 N hN28 => ?_)
  · obtain ⟨y2_1, y3_1, y4_1, x5_1, x6_1, y7_1, y15_1, y25_1, y38_1⟩ := s
    try dsimp only at hq ⊢
    rw [varint_Take_l0] at hq
    simp only [wpAt, hasLabel, Bool.false_eq_true, ↓reduceIte, Bool.or_false, Bool.false_or, Nat.reduceBEq, beq_self_eq_true, eq_self, true_and, Bool.or_true, Bool.true_or, RC, roundK_x, roundK_g, roundK_r]
    rw [wp_seq]
    obtain ⟨K31, hK32, hq⟩ := R.post_cut hq
    refine seq_gen (acall_mono tp) (σ := Bool) (fun s => [(0, .sl 1 (List.map byteV x0)), (2, y2_1), (3, y3_1), (4, y4_1), (5, .int .u64 x5_1), (6, .int .i64 x6_1), (7, y7_1), (15, .bool s), (25, y25_1), (38, y38_1)]) (fun s => h) (fun s => K31 s) (fun x15m30 hq => ?_) (fun N hN33 => ?_)
    · replace hq := hK32 _ hq
      try dsimp only at hq ⊢
      rw [wp_cond]
      simp only [go_sem, ↓evs_eq, Nat.reduceAdd, ↓reduceIte, Nat.reduceEqDiff, Nat.reduceBEq, Nat.reduceBNe, Nat.reduceLT, Int.reduceToNat, Int.reduceEq, Int.reduceLT, Int.reduceLE, reduceCtorEq, Nat.reduceMul, Nat.reduceLeDiff]
      by_cases hc35 : x15m30 = true
      · replace hq := (R.post_if hq).1 hc35
        refine condK_t (congrArg V.bool (hc35)) ?_
        rw [wp_seq]
        refine wp_region_i (by rfl) ?_
        simp only [go_sem, ↓evs_eq, Nat.reduceAdd, ↓reduceIte, Nat.reduceEqDiff, Nat.reduceBEq, Nat.reduceBNe, Nat.reduceLT, Int.reduceToNat, Int.reduceEq, Int.reduceLT, Int.reduceLE, reduceCtorEq, Nat.reduceMul, Nat.reduceLeDiff]
        rw [wp_ret]
        simp only [retQ, results, resultAll, resultOne, Nat.zero_add, scopeQ, go_sem, ↓evs_eq, Nat.reduceAdd, ↓reduceIte, Nat.reduceEqDiff, Nat.reduceBEq, Nat.reduceBNe, Nat.reduceLT, Int.reduceToNat, Int.reduceEq, Int.reduceLT, Int.reduceLE, reduceCtorEq, Nat.reduceMul, Nat.reduceLeDiff]
        refine ⟨_, (.refl _), ?_⟩
        exact hK _ hq
      · replace hq := (R.post_if hq).2 hc35
        replace hc35 := eq_false_of_ne_true hc35
        refine condK_f (congrArg V.bool (hc35)) ?_
        try simp only [wp_skip, RC, roundK_x, roundK_g, roundK_r]
        refine Wk.same ?_
        try simp only [RC, roundK_x, roundK_g, roundK_r]
        rw [wp_seq]
        refine wp_region_i (by rfl) ?_
        obtain ⟨g38, hq⟩ := R.guard hq
        have e39 := map_gt (f := byteV) (l := x0) (i := x6_1) g38
        simp only [e39, go_sem, ↓evs_eq, Nat.reduceAdd, ↓reduceIte, Nat.reduceEqDiff, Nat.reduceBEq, Nat.reduceBNe, Nat.reduceLT, Int.reduceToNat, Int.reduceEq, Int.reduceLT, Int.reduceLE, reduceCtorEq, Nat.reduceMul, Nat.reduceLeDiff]
        repeat (with_reducible refine And.intro (by first | omega | assumption) ?_)
        rw [wp_seq]
        obtain ⟨K42, hK43, hq⟩ := R.post_cut hq
        refine seq_gen (acall_mono tp) (σ := Bool) (fun s => [(0, .sl 1 (List.map byteV x0)), (2, y2_1), (3, y3_1), (4, y4_1), (5, .int .u64 x5_1), (6, .int .i64 x6_1), (7, .int .u8 ((gt x0 x6_1).toNat : Int)), (15, .bool x15m30), (25, .bool s), (38, y38_1)]) (fun s => h) (fun s => K42 s) (fun x25m41 hq => ?_) (fun N hN44 => ?_)
        · replace hq := hK43 _ hq
          try dsimp only at hq ⊢
          rw [wp_cond]
          simp only [go_sem, ↓evs_eq, Nat.reduceAdd, ↓reduceIte, Nat.reduceEqDiff, Nat.reduceBEq, Nat.reduceBNe, Nat.reduceLT, Int.reduceToNat, Int.reduceEq, Int.reduceLT, Int.reduceLE, reduceCtorEq, Nat.reduceMul, Nat.reduceLeDiff]
          by_cases hc46 : x25m41 = true
          · replace hq := (R.post_if hq).1 hc46
            refine condK_t (congrArg V.bool (hc46)) ?_
            rw [wp_seq]
            refine wp_region_i (by rfl) ?_
            simp only [go_sem, ↓evs_eq, Nat.reduceAdd, ↓reduceIte, Nat.reduceEqDiff, Nat.reduceBEq, Nat.reduceBNe, Nat.reduceLT, Int.reduceToNat, Int.reduceEq, Int.reduceLT, Int.reduceLE, reduceCtorEq, Nat.reduceMul, Nat.reduceLeDiff]
            rw [wp_ret]
            simp only [retQ, results, resultAll, resultOne, Nat.zero_add, scopeQ, go_sem, ↓evs_eq, Nat.reduceAdd, ↓reduceIte, Nat.reduceEqDiff, Nat.reduceBEq, Nat.reduceBNe, Nat.reduceLT, Int.reduceToNat, Int.reduceEq, Int.reduceLT, Int.reduceLE, reduceCtorEq, Nat.reduceMul, Nat.reduceLeDiff]
            refine ⟨_, (.refl _), ?_⟩
            exact hK _ hq
          · replace hq := (R.post_if hq).2 hc46
            replace hc46 := eq_false_of_ne_true hc46
            refine condK_f (congrArg V.bool (hc46)) ?_
            try simp only [wp_skip, RC, roundK_x, roundK_g, roundK_r]
            refine Wk.same ?_
            try simp only [RC, roundK_x, roundK_g, roundK_r]
            rw [wp_seq]
            refine wp_region_i (by rfl) ?_
            obtain ⟨g50, hq⟩ := R.guard hq
            have e49 := u8_fix (n := (bitsV .and .u8 ((gt x0 x6_1).toNat : Int) 127)) (bits_u8 _ _ _)
            simp only [e49, go_sem, ↓evs_eq, Nat.reduceAdd, ↓reduceIte, Nat.reduceEqDiff, Nat.reduceBEq, Nat.reduceBNe, Nat.reduceLT, Int.reduceToNat, Int.reduceEq, Int.reduceLT, Int.reduceLE, reduceCtorEq, Nat.reduceMul, Nat.reduceLeDiff]
            repeat (with_reducible refine And.intro (by first | omega | assumption) ?_)
            rw [wp_seq]
            refine wp_region_i (by rfl) ?_
            simp only [go_sem, ↓evs_eq, Nat.reduceAdd, ↓reduceIte, Nat.reduceEqDiff, Nat.reduceBEq, Nat.reduceBNe, Nat.reduceLT, Int.reduceToNat, Int.reduceEq, Int.reduceLT, Int.reduceLE, reduceCtorEq, Nat.reduceMul, Nat.reduceLeDiff]
            rw [wp_seq]
            rw [wp_seq]
            refine wp_region_i (by rfl) ?_
            have e52 := u8_fix (n := (bitsV .and .u8 ((gt x0 x6_1).toNat : Int) 128)) (bits_u8 _ _ _)
            simp only [e52, go_sem, ↓evs_eq, Nat.reduceAdd, ↓reduceIte, Nat.reduceEqDiff, Nat.reduceBEq, Nat.reduceBNe, Nat.reduceLT, Int.reduceToNat, Int.reduceEq, Int.reduceLT, Int.reduceLE, reduceCtorEq, Nat.reduceMul, Nat.reduceLeDiff]
            rw [wp_cond]
            simp only [go_sem, ↓evs_eq, Nat.reduceAdd, ↓reduceIte, Nat.reduceEqDiff, Nat.reduceBEq, Nat.reduceBNe, Nat.reduceLT, Int.reduceToNat, Int.reduceEq, Int.reduceLT, Int.reduceLE, reduceCtorEq, Nat.reduceMul, Nat.reduceLeDiff]
            by_cases hc53 : ((u8 (bitsV .and .u8 ((gt x0 x6_1).toNat : Int) 128)).toNat : Int) = 0
            · replace hq := (R.post_if hq).1 hc53
              refine condK_f (congrArg (fun b => V.bool (!b)) (decide_eq_true hc53)) ?_
              try simp only [wp_skip, RC, roundK_x, roundK_g, roundK_r]
              refine Wk.same ?_
              try simp only [RC, roundK_x, roundK_g, roundK_r]
              rw [wp_seq]
              refine wp_region_i (by rfl) ?_
              simp only [go_sem, ↓evs_eq, Nat.reduceAdd, ↓reduceIte, Nat.reduceEqDiff, Nat.reduceBEq, Nat.reduceBNe, Nat.reduceLT, Int.reduceToNat, Int.reduceEq, Int.reduceLT, Int.reduceLE, reduceCtorEq, Nat.reduceMul, Nat.reduceLeDiff]
              rw [wp_ret]
              simp only [retQ, results, resultAll, resultOne, Nat.zero_add, scopeQ, go_sem, ↓evs_eq, Nat.reduceAdd, ↓reduceIte, Nat.reduceEqDiff, Nat.reduceBEq, Nat.reduceBNe, Nat.reduceLT, Int.reduceToNat, Int.reduceEq, Int.reduceLT, Int.reduceLE, reduceCtorEq, Nat.reduceMul, Nat.reduceLeDiff]
              refine ⟨_, (.refl _), ?_⟩
              exact hK _ hq
            · replace hq := (R.post_if hq).2 hc53
              refine condK_t (congrArg (fun b => V.bool (!b)) (decide_eq_false hc53)) ?_
              rw [wp_goto]
              try simp only [scopeQ, findLabel, Option.isSome_some, Option.isSome_none, ↓reduceIte, Nat.reduceBEq, if_true, if_false, beq_self_eq_true, Bool.false_eq_true, RC, roundK_x, roundK_g, roundK_r]
              refine Wk.le (EnvLe.cons (.refl _) (EnvLe.cons (.refl _) (EnvLe.cons (.refl _) (EnvLe.cons (.refl _) (EnvLe.cons (.refl _) (EnvLe.cons (.refl _) (EnvLe.cons (.top _) (EnvLe.cons (.top _) (EnvLe.cons (.top _) (EnvLe.cons (.top _) EnvLe.nil)))))))))) ?_
              refine ⟨by first | rfl | trivial, ?_⟩
              exact hN28 (_, _, _, (bitsV .or .u64 x5_1 (IntKind.wrap .u64 ((IntKind.wrap .u64 ((u8 (bitsV .and .u8 ((gt x0 x6_1).toNat : Int) 127)).toNat : Int)) * 2 ^ (min (Int.toNat (IntKind.wrap .i64 (7 * x6_1))) 64)))), (IntKind.wrap .i64 (x6_1 + 1)), _, _, _, _) hq
        · refine wp_region_i (by rfl) ?_
          simp only [go_sem, ↓evs_eq, Nat.reduceAdd, ↓reduceIte, Nat.reduceEqDiff, Nat.reduceBEq, Nat.reduceBNe, Nat.reduceLT, Int.reduceToNat, Int.reduceEq, Int.reduceLT, Int.reduceLE, reduceCtorEq, Nat.reduceMul, Nat.reduceLeDiff]
          by_cases hc45 : x6_1 = 9
          · replace hq := (R.post_if hq).1 hc45
            simp only [decide_eq_true hc45, go_sem, ↓evs_eq, Nat.reduceAdd, ↓reduceIte, Nat.reduceEqDiff, Nat.reduceBEq, Nat.reduceBNe, Nat.reduceLT, Int.reduceToNat, Int.reduceEq, Int.reduceLT, Int.reduceLE, reduceCtorEq, Nat.reduceMul, Nat.reduceLeDiff]
            exact hN44 (decide ((1 : Int) < ((gt x0 x6_1).toNat : Int))) hq
          · replace hq := (R.post_if hq).2 hc45
            simp only [decide_eq_false hc45, go_sem, ↓evs_eq, Nat.reduceAdd, ↓reduceIte, Nat.reduceEqDiff, Nat.reduceBEq, Nat.reduceBNe, Nat.reduceLT, Int.reduceToNat, Int.reduceEq, Int.reduceLT, Int.reduceLE, reduceCtorEq, Nat.reduceMul, Nat.reduceLeDiff]
            exact hN44 false hq
    · refine wp_region_i (by rfl) ?_
      simp only [go_sem, ↓evs_eq, Nat.reduceAdd, ↓reduceIte, Nat.reduceEqDiff, Nat.reduceBEq, Nat.reduceBNe, Nat.reduceLT, Int.reduceToNat, Int.reduceEq, Int.reduceLT, Int.reduceLE, reduceCtorEq, Nat.reduceMul, Nat.reduceLeDiff]
      by_cases hc34 : x6_1 = (List.length x0 : Int)
      · replace hq := (R.post_if hq).1 hc34
        simp only [decide_eq_true hc34, go_sem, ↓evs_eq, Nat.reduceAdd, ↓reduceIte, Nat.reduceEqDiff, Nat.reduceBEq, Nat.reduceBNe, Nat.reduceLT, Int.reduceToNat, Int.reduceEq, Int.reduceLT, Int.reduceLE, reduceCtorEq, Nat.reduceMul, Nat.reduceLeDiff]
        exact hN33 true hq
      · replace hq := (R.post_if hq).2 hc34
        simp only [decide_eq_false hc34, go_sem, ↓evs_eq, Nat.reduceAdd, ↓reduceIte, Nat.reduceEqDiff, Nat.reduceBEq, Nat.reduceBNe, Nat.reduceLT, Int.reduceToNat, Int.reduceEq, Int.reduceLT, Int.reduceLE, reduceCtorEq, Nat.reduceMul, Nat.reduceLeDiff]
        exact hN33 (decide (x6_1 = 10)) hq
  · rw [wp_seq]
    refine wp_region_i (by rfl) ?_
    simp only [go_sem, ↓evs_eq, Nat.reduceAdd, ↓reduceIte, Nat.reduceEqDiff, Nat.reduceBEq, Nat.reduceBNe, Nat.reduceLT, Int.reduceToNat, Int.reduceEq, Int.reduceLT, Int.reduceLE, reduceCtorEq, Nat.reduceMul, Nat.reduceLeDiff]
    rw [wp_seq]
    rw [wp_label]
    refine Wk.le (EnvLe.cons (.refl _) (EnvLe.cons (.top _) (EnvLe.cons (.top _) (EnvLe.cons (.top _) (EnvLe.cons (.refl _) (EnvLe.cons (.refl _) (EnvLe.cons (.refl _) (EnvLe.cons (.refl _) (EnvLe.cons (.refl _) (EnvLe.cons (.refl _) EnvLe.nil)))))))))) ?_
    try simp only [RC, roundK_x, roundK_g, roundK_r]
    obtain ⟨k, hk⟩ := many_succ
    rw [hk] at hq
    have hst := hS55 k (.top, .top, .top, 0, 0, .top, .top, .top, .top) hq N (fun s' hs' => hN28 k s' hs')
    simp only [wpAt, hasLabel, Bool.false_eq_true, ↓reduceIte, Bool.or_false, Bool.false_or, Nat.reduceBEq, beq_self_eq_true, eq_self, true_and, Bool.or_true, Bool.true_or, RC, roundK_x, roundK_g, roundK_r] at hst
    exact hst

def wire_kind (x0 : Int) : R (Int × Bool) :=
  if x0 = 1 then (R.ok (8, true)) else (if x0 = 5 then (R.ok (4, true)) else (if x0 = 0 then (R.ok (0, true)) else (if x0 = 2 then (R.ok (0, true)) else (R.ok (0, false)))))
theorem wire_kind_call {h : H} {x0 : Int} {Q : Out → H → Prop} {KK : (Int × Bool) → Prop} {X : V → Prop} (hq : (wire_kind x0).post KK X) (hK : ∀ r, KK r → Q (.ret (.tup [.int .i64 r.1, .bool r.2])) h) (hX : ∀ v, X v → V.Cl 0 v ∧ Q (.panic v) h) : CA tprim 106 [.int .i64 x0] h Q := by
  refine acalln tp Try.func106 rfl (by kernel_rfl) (n := 13) rfl (rs := [.tmp 2, .tmp 3]) rfl [0, 2, 3, 4, 5, 7, 9, 11] [] false (by simp) ?_
  unfold wire_kind at hq
  simp only [initEnv, List.map_cons, List.map_nil, List.getD_cons_zero, List.getD_cons_succ, List.getD_nil, V.demote]
  rw [wp_seq]
  refine wp_region_i (by rfl) ?_
  simp only [go_sem, ↓evs_eq, Nat.reduceAdd, ↓reduceIte, Nat.reduceEqDiff, Nat.reduceBEq, Nat.reduceBNe, Nat.reduceLT, Int.reduceToNat, Int.reduceEq, Int.reduceLT, Int.reduceLE, reduceCtorEq, Nat.reduceMul, Nat.reduceLeDiff]
  rw [wp_seq]
  rw [wp_seq]
  refine wp_region_i (by rfl) ?_
  simp only [go_sem, ↓evs_eq, Nat.reduceAdd, ↓reduceIte, Nat.reduceEqDiff, Nat.reduceBEq, Nat.reduceBNe, Nat.reduceLT, Int.reduceToNat, Int.reduceEq, Int.reduceLT, Int.reduceLE, reduceCtorEq, Nat.reduceMul, Nat.reduceLeDiff]
  rw [wp_block]
  rw [wp_seq]
  rw [wp_block]
  rw [wp_block]
  rw [wp_seq]
  rw [wp_block]
  rw [wp_seq]
  rw [wp_block]
  rw [wp_seq]
  rw [wp_seq]
  rw [wp_seq]
  refine wp_region_i (by rfl) ?_
  simp only [go_sem, ↓evs_eq, Nat.reduceAdd, ↓reduceIte, Nat.reduceEqDiff, Nat.reduceBEq, Nat.reduceBNe, Nat.reduceLT, Int.reduceToNat, Int.reduceEq, Int.reduceLT, Int.reduceLE, reduceCtorEq, Nat.reduceMul, Nat.reduceLeDiff]
  rw [wp_cond]
  simp only [go_sem, ↓evs_eq, Nat.reduceAdd, ↓reduceIte, Nat.reduceEqDiff, Nat.reduceBEq, Nat.reduceBNe, Nat.reduceLT, Int.reduceToNat, Int.reduceEq, Int.reduceLT, Int.reduceLE, reduceCtorEq, Nat.reduceMul, Nat.reduceLeDiff]
  by_cases hc24 : x0 = 1
  · replace hq := (R.post_if hq).1 hc24
    refine condK_t (congrArg V.bool (decide_eq_true hc24)) ?_
    rw [wp_exit]
    try simp only [↓reduceIte, Nat.reduceEqDiff, reduceCtorEq, if_false, if_true, eq_self, Nat.succ_ne_self, RC, roundK_x, roundK_g, roundK_r]
    refine Wk.same ?_
    try simp only [RC, roundK_x, roundK_g, roundK_r]
    rw [wp_seq]
    rw [wp_seq]
    refine wp_region_i (by rfl) ?_
    simp only [go_sem, ↓evs_eq, Nat.reduceAdd, ↓reduceIte, Nat.reduceEqDiff, Nat.reduceBEq, Nat.reduceBNe, Nat.reduceLT, Int.reduceToNat, Int.reduceEq, Int.reduceLT, Int.reduceLE, reduceCtorEq, Nat.reduceMul, Nat.reduceLeDiff]
    rw [wp_ret]
    simp only [retQ, results, resultAll, resultOne, Nat.zero_add, scopeQ, go_sem, ↓evs_eq, Nat.reduceAdd, ↓reduceIte, Nat.reduceEqDiff, Nat.reduceBEq, Nat.reduceBNe, Nat.reduceLT, Int.reduceToNat, Int.reduceEq, Int.reduceLT, Int.reduceLE, reduceCtorEq, Nat.reduceMul, Nat.reduceLeDiff]
    refine ⟨_, (.refl _), ?_⟩
    exact hK _ hq
  · replace hq := (R.post_if hq).2 hc24
    refine condK_f (congrArg V.bool (decide_eq_false hc24)) ?_
    try simp only [wp_skip, RC, roundK_x, roundK_g, roundK_r]
    refine Wk.same ?_
    try simp only [RC, roundK_x, roundK_g, roundK_r]
    rw [wp_seq]
    rw [wp_seq]
    refine wp_region_i (by rfl) ?_
    simp only [go_sem, ↓evs_eq, Nat.reduceAdd, ↓reduceIte, Nat.reduceEqDiff, Nat.reduceBEq, Nat.reduceBNe, Nat.reduceLT, Int.reduceToNat, Int.reduceEq, Int.reduceLT, Int.reduceLE, reduceCtorEq, Nat.reduceMul, Nat.reduceLeDiff]
    rw [wp_cond]
    simp only [go_sem, ↓evs_eq, Nat.reduceAdd, ↓reduceIte, Nat.reduceEqDiff, Nat.reduceBEq, Nat.reduceBNe, Nat.reduceLT, Int.reduceToNat, Int.reduceEq, Int.reduceLT, Int.reduceLE, reduceCtorEq, Nat.reduceMul, Nat.reduceLeDiff]
    by_cases hc25 : x0 = 5
    · replace hq := (R.post_if hq).1 hc25
      refine condK_t (congrArg V.bool (decide_eq_true hc25)) ?_
      rw [wp_exit]
      try simp only [↓reduceIte, Nat.reduceEqDiff, reduceCtorEq, if_false, if_true, eq_self, Nat.succ_ne_self, RC, roundK_x, roundK_g, roundK_r]
      refine Wk.same ?_
      try simp only [RC, roundK_x, roundK_g, roundK_r]
      rw [wp_seq]
      rw [wp_seq]
      refine wp_region_i (by rfl) ?_
      simp only [go_sem, ↓evs_eq, Nat.reduceAdd, ↓reduceIte, Nat.reduceEqDiff, Nat.reduceBEq, Nat.reduceBNe, Nat.reduceLT, Int.reduceToNat, Int.reduceEq, Int.reduceLT, Int.reduceLE, reduceCtorEq, Nat.reduceMul, Nat.reduceLeDiff]
      rw [wp_ret]
      simp only [retQ, results, resultAll, resultOne, Nat.zero_add, scopeQ, go_sem, ↓evs_eq, Nat.reduceAdd, ↓reduceIte, Nat.reduceEqDiff, Nat.reduceBEq, Nat.reduceBNe, Nat.reduceLT, Int.reduceToNat, Int.reduceEq, Int.reduceLT, Int.reduceLE, reduceCtorEq, Nat.reduceMul, Nat.reduceLeDiff]
      refine ⟨_, (.refl _), ?_⟩
      exact hK _ hq
    · replace hq := (R.post_if hq).2 hc25
      refine condK_f (congrArg V.bool (decide_eq_false hc25)) ?_
      try simp only [wp_skip, RC, roundK_x, roundK_g, roundK_r]
      refine Wk.same ?_
      try simp only [RC, roundK_x, roundK_g, roundK_r]
      rw [wp_seq]
      rw [wp_seq]
      refine wp_region_i (by rfl) ?_
      simp only [go_sem, ↓evs_eq, Nat.reduceAdd, ↓reduceIte, Nat.reduceEqDiff, Nat.reduceBEq, Nat.reduceBNe, Nat.reduceLT, Int.reduceToNat, Int.reduceEq, Int.reduceLT, Int.reduceLE, reduceCtorEq, Nat.reduceMul, Nat.reduceLeDiff]
      rw [wp_cond]
      simp only [go_sem, ↓evs_eq, Nat.reduceAdd, ↓reduceIte, Nat.reduceEqDiff, Nat.reduceBEq, Nat.reduceBNe, Nat.reduceLT, Int.reduceToNat, Int.reduceEq, Int.reduceLT, Int.reduceLE, reduceCtorEq, Nat.reduceMul, Nat.reduceLeDiff]
      by_cases hc26 : x0 = 0
      · replace hq := (R.post_if hq).1 hc26
        refine condK_t (congrArg V.bool (decide_eq_true hc26)) ?_
        rw [wp_exit]
        try simp only [↓reduceIte, Nat.reduceEqDiff, reduceCtorEq, if_false, if_true, eq_self, Nat.succ_ne_self, RC, roundK_x, roundK_g, roundK_r]
        refine Wk.same ?_
        try simp only [RC, roundK_x, roundK_g, roundK_r]
        refine Wk.same ?_
        try simp only [RC, roundK_x, roundK_g, roundK_r]
        rw [wp_seq]
        rw [wp_seq]
        refine wp_region_i (by rfl) ?_
        simp only [go_sem, ↓evs_eq, Nat.reduceAdd, ↓reduceIte, Nat.reduceEqDiff, Nat.reduceBEq, Nat.reduceBNe, Nat.reduceLT, Int.reduceToNat, Int.reduceEq, Int.reduceLT, Int.reduceLE, reduceCtorEq, Nat.reduceMul, Nat.reduceLeDiff]
        rw [wp_ret]
        simp only [retQ, results, resultAll, resultOne, Nat.zero_add, scopeQ, go_sem, ↓evs_eq, Nat.reduceAdd, ↓reduceIte, Nat.reduceEqDiff, Nat.reduceBEq, Nat.reduceBNe, Nat.reduceLT, Int.reduceToNat, Int.reduceEq, Int.reduceLT, Int.reduceLE, reduceCtorEq, Nat.reduceMul, Nat.reduceLeDiff]
        refine ⟨_, (.refl _), ?_⟩
        exact hK _ hq
      · replace hq := (R.post_if hq).2 hc26
        refine condK_f (congrArg V.bool (decide_eq_false hc26)) ?_
        try simp only [wp_skip, RC, roundK_x, roundK_g, roundK_r]
        refine Wk.same ?_
        try simp only [RC, roundK_x, roundK_g, roundK_r]
        rw [wp_seq]
        refine wp_region_i (by rfl) ?_
        simp only [go_sem, ↓evs_eq, Nat.reduceAdd, ↓reduceIte, Nat.reduceEqDiff, Nat.reduceBEq, Nat.reduceBNe, Nat.reduceLT, Int.reduceToNat, Int.reduceEq, Int.reduceLT, Int.reduceLE, reduceCtorEq, Nat.reduceMul, Nat.reduceLeDiff]
        rw [wp_cond]
        simp only [go_sem, ↓evs_eq, Nat.reduceAdd, ↓reduceIte, Nat.reduceEqDiff, Nat.reduceBEq, Nat.reduceBNe, Nat.reduceLT, Int.reduceToNat, Int.reduceEq, Int.reduceLT, Int.reduceLE, reduceCtorEq, Nat.reduceMul, Nat.reduceLeDiff]
        by_cases hc27 : x0 = 2
        · replace hq := (R.post_if hq).1 hc27
          refine condK_t (congrArg V.bool (decide_eq_true hc27)) ?_
          rw [wp_exit]
          try simp only [↓reduceIte, Nat.reduceEqDiff, reduceCtorEq, if_false, if_true, eq_self, Nat.succ_ne_self, RC, roundK_x, roundK_g, roundK_r]
          refine Wk.same ?_
          try simp only [RC, roundK_x, roundK_g, roundK_r]
          rw [wp_seq]
          rw [wp_seq]
          refine wp_region_i (by rfl) ?_
          simp only [go_sem, ↓evs_eq, Nat.reduceAdd, ↓reduceIte, Nat.reduceEqDiff, Nat.reduceBEq, Nat.reduceBNe, Nat.reduceLT, Int.reduceToNat, Int.reduceEq, Int.reduceLT, Int.reduceLE, reduceCtorEq, Nat.reduceMul, Nat.reduceLeDiff]
          rw [wp_ret]
          simp only [retQ, results, resultAll, resultOne, Nat.zero_add, scopeQ, go_sem, ↓evs_eq, Nat.reduceAdd, ↓reduceIte, Nat.reduceEqDiff, Nat.reduceBEq, Nat.reduceBNe, Nat.reduceLT, Int.reduceToNat, Int.reduceEq, Int.reduceLT, Int.reduceLE, reduceCtorEq, Nat.reduceMul, Nat.reduceLeDiff]
          refine ⟨_, (.refl _), ?_⟩
          exact hK _ hq
        · replace hq := (R.post_if hq).2 hc27
          refine condK_f (congrArg V.bool (decide_eq_false hc27)) ?_
          try simp only [wp_skip, RC, roundK_x, roundK_g, roundK_r]
          refine Wk.same ?_
          try simp only [RC, roundK_x, roundK_g, roundK_r]
          rw [wp_exit]
          try simp only [↓reduceIte, Nat.reduceEqDiff, reduceCtorEq, if_false, if_true, eq_self, Nat.succ_ne_self, RC, roundK_x, roundK_g, roundK_r]
          refine Wk.same ?_
          try simp only [RC, roundK_x, roundK_g, roundK_r]
          rw [wp_seq]
          refine wp_region_i (by rfl) ?_
          simp only [go_sem, ↓evs_eq, Nat.reduceAdd, ↓reduceIte, Nat.reduceEqDiff, Nat.reduceBEq, Nat.reduceBNe, Nat.reduceLT, Int.reduceToNat, Int.reduceEq, Int.reduceLT, Int.reduceLE, reduceCtorEq, Nat.reduceMul, Nat.reduceLeDiff]
          rw [wp_ret]
          simp only [retQ, results, resultAll, resultOne, Nat.zero_add, scopeQ, go_sem, ↓evs_eq, Nat.reduceAdd, ↓reduceIte, Nat.reduceEqDiff, Nat.reduceBEq, Nat.reduceBNe, Nat.reduceLT, Int.reduceToNat, Int.reduceEq, Int.reduceLT, Int.reduceLE, reduceCtorEq, Nat.reduceMul, Nat.reduceLeDiff]
          refine ⟨_, (.refl _), ?_⟩
          exact hK _ hq

def varint_Unfixed_j0 (x3_17 : Int) : R (Int) :=
  R.ok x3_17
def varint_Unfixed_l1 (x0 : List UInt8) : Nat → Int → Int → R (Int)
  | 0, _, _ => R.stuck
  | k + 1, x3_19, x8_19 => if x8_19 < (if 8 < (List.length x0 : Int) then 8 else (List.length x0 : Int)) then (if 0 ≤ x8_19 ∧ x8_19 < (List.length x0 : Int) then (if 0 ≤ (IntKind.wrap .i64 (8 * x8_19)) then (varint_Unfixed_l1 x0 k (bitsV .or .u64 x3_19 (IntKind.wrap .u64 ((IntKind.wrap .u64 ((gt x0 x8_19).toNat : Int)) * 2 ^ (min (Int.toNat (IntKind.wrap .i64 (8 * x8_19))) 64)))) (IntKind.wrap .i64 (x8_19 + 1))) else R.stuck) else R.stuck) else (R.ok x3_19)
def varint_Unfixed (x0 : List UInt8) : R (Int) :=
  (varint_Unfixed_l1 x0 Many 0 0).bind fun x3p38 => varint_Unfixed_j0 x3p38
theorem varint_Unfixed_call {h : H} {x0 : List UInt8} {Q : Out → H → Prop} {KK : (Int) → Prop} {X : V → Prop} (hq : (varint_Unfixed x0).post KK X) (hK : ∀ r, KK r → Q (.ret (.int .u64 r)) h) (hX : ∀ v, X v → V.Cl 0 v ∧ Q (.panic v) h) : CA tprim 107 [.sl 1 (List.map byteV x0)] h Q := by
  refine acalln tp Try.func107 rfl (by kernel_rfl) (n := 23) rfl (rs := [.tmp 2]) rfl [0, 2, 3, 4, 7, 8, 9] [] false (by simp) ?_
  unfold varint_Unfixed at hq
  simp only [initEnv, List.map_cons, List.map_nil, List.getD_cons_zero, List.getD_cons_succ, List.getD_nil, V.demote]
  rw [wp_seq]
  refine wp_region_i (by rfl) ?_
  simp only [go_sem, ↓evs_eq, Nat.reduceAdd, ↓reduceIte, Nat.reduceEqDiff, Nat.reduceBEq, Nat.reduceBNe, Nat.reduceLT, Int.reduceToNat, Int.reduceEq, Int.reduceLT, Int.reduceLE, reduceCtorEq, Nat.reduceMul, Nat.reduceLeDiff]
  rw [wp_seq]
  refine wp_region_i (by rfl) ?_
  simp only [go_sem, ↓evs_eq, Nat.reduceAdd, ↓reduceIte, Nat.reduceEqDiff, Nat.reduceBEq, Nat.reduceBNe, Nat.reduceLT, Int.reduceToNat, Int.reduceEq, Int.reduceLT, Int.reduceLE, reduceCtorEq, Nat.reduceMul, Nat.reduceLeDiff]
  refine seq_gen (acall_mono tp) (σ := Int × V × V × V × V) (fun s => [(0, .sl 1 (List.map byteV x0)), (2, .int .u64 0), (3, .int .u64 s.1), (4, s.2.1), (7, s.2.2.1), (8, s.2.2.2.1), (9, s.2.2.2.2)]) (fun s => h) (fun s => (varint_Unfixed_j0 s.1).post KK X) (fun s hq => ?_) (fun N hN18 => ?_)
  · obtain ⟨x3_17, y4_17, y7_17, y8_17, y9_17⟩ := s
    try dsimp only at hq ⊢
    unfold varint_Unfixed_j0 at hq
    rw [wp_seq]
    refine wp_region_i (by rfl) ?_
    simp only [go_sem, ↓evs_eq, Nat.reduceAdd, ↓reduceIte, Nat.reduceEqDiff, Nat.reduceBEq, Nat.reduceBNe, Nat.reduceLT, Int.reduceToNat, Int.reduceEq, Int.reduceLT, Int.reduceLE, reduceCtorEq, Nat.reduceMul, Nat.reduceLeDiff]
    rw [wp_ret]
    simp only [retQ, results, resultAll, resultOne, Nat.zero_add, scopeQ, go_sem, ↓evs_eq, Nat.reduceAdd, ↓reduceIte, Nat.reduceEqDiff, Nat.reduceBEq, Nat.reduceBNe, Nat.reduceLT, Int.reduceToNat, Int.reduceEq, Int.reduceLT, Int.reduceLE, reduceCtorEq, Nat.reduceMul, Nat.reduceLeDiff]
    refine ⟨_, (.refl _), ?_⟩
    exact hK _ hq
  · rw [wp_seq]
    refine wp_region_i (by rfl) ?_
    simp only [go_sem, ↓evs_eq, Nat.reduceAdd, ↓reduceIte, Nat.reduceEqDiff, Nat.reduceBEq, Nat.reduceBNe, Nat.reduceLT, Int.reduceToNat, Int.reduceEq, Int.reduceLT, Int.reduceLE, reduceCtorEq, Nat.reduceMul, Nat.reduceLeDiff]
    rw [wp_block]
    refine loop_in ?_
    refine Wk.same ?_
    obtain ⟨K27, hK28, hq⟩ := R.post_cut hq
    refine loop_gen (acall_mono tp) (σ := Int × V × Int × V) (fun s => [(0, .sl 1 (List.map byteV x0)), (2, .int .u64 0), (3, .int .u64 s.1), (4, s.2.1), (7, .int .i64 (if 8 < (List.length x0 : Int) then 8 else (List.length x0 : Int))), (8, .int .i64 s.2.2.1), (9, s.2.2.2)]) (fun s => h) (fun k s => (varint_Unfixed_l1 x0 k s.1 s.2.2.1).post K27 X) (fun s hs => hs) (fun k37 s hq N hN29 => ?_) _ (0, _, 0, _) hq
    obtain ⟨x3_19, y4_19, x8_19, y9_19⟩ := s
    try dsimp only at hq ⊢
    rw [varint_Unfixed_l1] at hq
    rw [wp_seq]
    refine wp_region_i (by rfl) ?_
    simp only [go_sem, ↓evs_eq, Nat.reduceAdd, ↓reduceIte, Nat.reduceEqDiff, Nat.reduceBEq, Nat.reduceBNe, Nat.reduceLT, Int.reduceToNat, Int.reduceEq, Int.reduceLT, Int.reduceLE, reduceCtorEq, Nat.reduceMul, Nat.reduceLeDiff]
    rw [wp_seq]
    rw [wp_cond]
    simp only [go_sem, ↓evs_eq, Nat.reduceAdd, ↓reduceIte, Nat.reduceEqDiff, Nat.reduceBEq, Nat.reduceBNe, Nat.reduceLT, Int.reduceToNat, Int.reduceEq, Int.reduceLT, Int.reduceLE, reduceCtorEq, Nat.reduceMul, Nat.reduceLeDiff]
    by_cases hc30 : x8_19 < (if 8 < (List.length x0 : Int) then 8 else (List.length x0 : Int))
    · replace hq := (R.post_if hq).1 hc30
      refine condK_t (congrArg V.bool (decide_eq_true hc30)) ?_
      try simp only [wp_skip, RC, roundK_x, roundK_g, roundK_r]
      refine Wk.same ?_
      try simp only [RC, roundK_x, roundK_g, roundK_r]
      rw [wp_seq]
      rw [wp_block]
      rw [wp_seq]
      refine wp_region_i (by rfl) ?_
      simp only [go_sem, ↓evs_eq, Nat.reduceAdd, ↓reduceIte, Nat.reduceEqDiff, Nat.reduceBEq, Nat.reduceBNe, Nat.reduceLT, Int.reduceToNat, Int.reduceEq, Int.reduceLT, Int.reduceLE, reduceCtorEq, Nat.reduceMul, Nat.reduceLeDiff]
      refine wp_region_i (by rfl) ?_
      obtain ⟨g34, hq⟩ := R.guard hq
      obtain ⟨g36, hq⟩ := R.guard hq
      have e35 := map_gt (f := byteV) (l := x0) (i := x8_19) g34
      simp only [e35, go_sem, ↓evs_eq, Nat.reduceAdd, ↓reduceIte, Nat.reduceEqDiff, Nat.reduceBEq, Nat.reduceBNe, Nat.reduceLT, Int.reduceToNat, Int.reduceEq, Int.reduceLT, Int.reduceLE, reduceCtorEq, Nat.reduceMul, Nat.reduceLeDiff]
      repeat (with_reducible refine And.intro (by first | omega | assumption) ?_)
      refine Wk.same ?_
      try simp only [RC, roundK_x, roundK_g, roundK_r]
      refine wp_region_i (by rfl) ?_
      simp only [go_sem, ↓evs_eq, Nat.reduceAdd, ↓reduceIte, Nat.reduceEqDiff, Nat.reduceBEq, Nat.reduceBNe, Nat.reduceLT, Int.reduceToNat, Int.reduceEq, Int.reduceLT, Int.reduceLE, reduceCtorEq, Nat.reduceMul, Nat.reduceLeDiff]
      refine Wk.le (EnvLe.cons (.refl _) (EnvLe.cons (.refl _) (EnvLe.cons (.refl _) (EnvLe.cons (.top _) (EnvLe.cons (.refl _) (EnvLe.cons (.refl _) (EnvLe.cons (.top _) EnvLe.nil))))))) ?_
      exact hN29 ((bitsV .or .u64 x3_19 (IntKind.wrap .u64 ((IntKind.wrap .u64 ((gt x0 x8_19).toNat : Int)) * 2 ^ (min (Int.toNat (IntKind.wrap .i64 (8 * x8_19))) 64)))), _, (IntKind.wrap .i64 (x8_19 + 1)), _) hq
    · replace hq := (R.post_if hq).2 hc30
      refine condK_f (congrArg V.bool (decide_eq_false hc30)) ?_
      rw [wp_exit]
      try simp only [↓reduceIte, Nat.reduceEqDiff, reduceCtorEq, if_false, if_true, eq_self, Nat.succ_ne_self, RC, roundK_x, roundK_g, roundK_r]
      replace hq := hK28 _ hq
      try dsimp only at hq
      refine Wk.le (EnvLe.cons (.refl _) (EnvLe.cons (.refl _) (EnvLe.cons (.refl _) (EnvLe.cons (.refl _) (EnvLe.cons (.top _) (EnvLe.cons (.top _) (EnvLe.cons (.top _) EnvLe.nil))))))) ?_
      try simp only [RC, roundK_x, roundK_g, roundK_r]
      exact hN18 (x3_19, _, _, _, _) hq

def bytes_Clone_j0 (x0 : List UInt8) : R ((List UInt8)) :=
  if List.length x0 ≤ 1000000000 then (R.ok x0) else R.stuck
def bytes_Clone (x0 : List UInt8) : R ((List UInt8)) :=
  if x0 = [] then (R.both fun c25 => if c25 = true then (R.ok []) else (bytes_Clone_j0 x0)) else (bytes_Clone_j0 x0)
theorem bytes_Clone_call {h : H} {x0 : List UInt8} {Q : Out → H → Prop} {KK : ((List UInt8)) → Prop} {X : V → Prop} (hq : (bytes_Clone x0).post KK X) (hK : ∀ r, KK r → Q (.ret (.sl 1 (List.map byteV r))) h) (hX : ∀ v, X v → V.Cl 0 v ∧ Q (.panic v) h) : CA tprim 108 [.sl 1 (List.map byteV x0)] h Q := by
  refine acalln tp Try.func108 rfl (by kernel_rfl) (n := 8) rfl (rs := [.tmp 2]) rfl [0, 2, 4] [5] false (by simp) ?_
  unfold bytes_Clone at hq
  simp only [initEnv, List.map_cons, List.map_nil, List.getD_cons_zero, List.getD_cons_succ, List.getD_nil, V.demote]
  rw [wp_seq]
  refine wp_region_i (by rfl) ?_
  simp only [go_sem, ↓evs_eq, Nat.reduceAdd, ↓reduceIte, Nat.reduceEqDiff, Nat.reduceBEq, Nat.reduceBNe, Nat.reduceLT, Int.reduceToNat, Int.reduceEq, Int.reduceLT, Int.reduceLE, reduceCtorEq, Nat.reduceMul, Nat.reduceLeDiff]
  refine seq_gen (acall_mono tp) (σ := V × V) (fun s => [(0, .sl 1 (List.map byteV x0)), (2, s.1), (4, s.2)]) (fun s => h) (fun s => (bytes_Clone_j0 x0).post KK X) (fun s hq => ?_) (fun N hN17 => ?_)
  · obtain ⟨y2_12, y4_12⟩ := s
    try dsimp only at hq ⊢
    unfold bytes_Clone_j0 at hq
    rw [wp_seq]
    refine wp_region_i (by rfl) ?_
    obtain ⟨g15, hq⟩ := R.guard hq
    have e16 : [] ++ List.map byteV x0 = List.map byteV ([] ++ x0) := rfl
    simp only [e16, go_sem, ↓evs_eq, Nat.reduceAdd, ↓reduceIte, Nat.reduceEqDiff, Nat.reduceBEq, Nat.reduceBNe, Nat.reduceLT, Int.reduceToNat, Int.reduceEq, Int.reduceLT, Int.reduceLE, reduceCtorEq, Nat.reduceMul, Nat.reduceLeDiff]
    repeat (with_reducible refine And.intro (by first | omega | assumption) ?_)
    rw [wp_ret]
    simp only [retQ, results, resultAll, resultOne, Nat.zero_add, scopeQ, go_sem, ↓evs_eq, Nat.reduceAdd, ↓reduceIte, Nat.reduceEqDiff, Nat.reduceBEq, Nat.reduceBNe, Nat.reduceLT, Int.reduceToNat, Int.reduceEq, Int.reduceLT, Int.reduceLE, reduceCtorEq, Nat.reduceMul, Nat.reduceLeDiff]
    refine ⟨_, (.osl _ _ _), ?_⟩
    exact hK _ hq
  · rw [wp_seq]
    refine wp_region_i (by rfl) ?_
    simp only [go_sem, ↓evs_eq, Nat.reduceAdd, ↓reduceIte, Nat.reduceEqDiff, Nat.reduceBEq, Nat.reduceBNe, Nat.reduceLT, Int.reduceToNat, Int.reduceEq, Int.reduceLT, Int.reduceLE, reduceCtorEq, Nat.reduceMul, Nat.reduceLeDiff]
    by_cases hc23 : x0 = []
    · replace hq := (R.post_if hq).1 hc23
      try simp only [decide_eq_true hc23, go_sem, ↓evs_eq, Nat.reduceAdd, ↓reduceIte, Nat.reduceEqDiff, Nat.reduceBEq, Nat.reduceBNe, Nat.reduceLT, Int.reduceToNat, Int.reduceEq, Int.reduceLT, Int.reduceLE, reduceCtorEq, Nat.reduceMul, Nat.reduceLeDiff]
      repeat (with_reducible refine And.intro (by first | omega | assumption) ?_)
      intro u24
      replace hq := R.post_both hq (nilB false ((List.map byteV x0)) u24)
      generalize nilB false ((List.map byteV x0)) u24 = c25 at hq ⊢
      rw [wp_cond]
      simp only [go_sem, ↓evs_eq, Nat.reduceAdd, ↓reduceIte, Nat.reduceEqDiff, Nat.reduceBEq, Nat.reduceBNe, Nat.reduceLT, Int.reduceToNat, Int.reduceEq, Int.reduceLT, Int.reduceLE, reduceCtorEq, Nat.reduceMul, Nat.reduceLeDiff]
      by_cases hc26 : c25 = true
      · replace hq := (R.post_if hq).1 hc26
        refine condK_t (congrArg V.bool (hc26)) ?_
        rw [wp_seq]
        refine wp_region_i (by rfl) ?_
        simp only [go_sem, ↓evs_eq, Nat.reduceAdd, ↓reduceIte, Nat.reduceEqDiff, Nat.reduceBEq, Nat.reduceBNe, Nat.reduceLT, Int.reduceToNat, Int.reduceEq, Int.reduceLT, Int.reduceLE, reduceCtorEq, Nat.reduceMul, Nat.reduceLeDiff]
        rw [wp_ret]
        simp only [retQ, results, resultAll, resultOne, Nat.zero_add, scopeQ, go_sem, ↓evs_eq, Nat.reduceAdd, ↓reduceIte, Nat.reduceEqDiff, Nat.reduceBEq, Nat.reduceBNe, Nat.reduceLT, Int.reduceToNat, Int.reduceEq, Int.reduceLT, Int.reduceLE, reduceCtorEq, Nat.reduceMul, Nat.reduceLeDiff]
        refine ⟨_, (.nsl _ _), ?_⟩
        exact hK _ hq
      · replace hq := (R.post_if hq).2 hc26
        replace hc26 := eq_false_of_ne_true hc26
        refine condK_f (congrArg V.bool (hc26)) ?_
        try simp only [wp_skip, RC, roundK_x, roundK_g, roundK_r]
        refine Wk.le (EnvLe.cons (.refl _) (EnvLe.cons (.top _) (EnvLe.cons (.top _) EnvLe.nil))) ?_
        try simp only [RC, roundK_x, roundK_g, roundK_r]
        exact hN17 (_, _) hq
    · replace hq := (R.post_if hq).2 hc23
      have e28 : ∀ u, nilB false ((List.map byteV x0)) u = false := fun u => nilB_ne hc23
      simp only [e28, decide_eq_false hc23, go_sem, ↓evs_eq, Nat.reduceAdd, ↓reduceIte, Nat.reduceEqDiff, Nat.reduceBEq, Nat.reduceBNe, Nat.reduceLT, Int.reduceToNat, Int.reduceEq, Int.reduceLT, Int.reduceLE, reduceCtorEq, Nat.reduceMul, Nat.reduceLeDiff]
      repeat (with_reducible refine And.intro (by first | omega | assumption) ?_)
      intro u27
      rw [wp_cond]
      simp only [go_sem, ↓evs_eq, Nat.reduceAdd, ↓reduceIte, Nat.reduceEqDiff, Nat.reduceBEq, Nat.reduceBNe, Nat.reduceLT, Int.reduceToNat, Int.reduceEq, Int.reduceLT, Int.reduceLE, reduceCtorEq, Nat.reduceMul, Nat.reduceLeDiff]
      rw [condK_ff]
      try simp only [wp_skip, RC, roundK_x, roundK_g, roundK_r]
      refine Wk.le (EnvLe.cons (.refl _) (EnvLe.cons (.top _) (EnvLe.cons (.top _) EnvLe.nil))) ?_
      try simp only [RC, roundK_x, roundK_g, roundK_r]
      exact hN17 (_, _) hq

def wire_Take (x0 : List UInt8) : R (S_api_Raw × Int × Int) :=
  (varint_Take x0).bind fun r4 => if r4.2.2 = 0 then ((wire_kind (IntKind.wrap .i64 (bitsV .and .u64 r4.1 7))).bind fun r10 => (if (Int.fdiv r4.1 (2 ^ (min 32 64))) = 0 then (if (IntKind.wrap .i64 (Int.fdiv r4.1 (2 ^ (min 3 64)))) = 0 then (R.ok true) else (R.ok (!r10.2))) else (R.ok true)).bind fun x48m17 => if x48m17 = true then (R.ok ((S_api_Raw.mk 0 0 0 []), 0, 20)) else (if 0 ≤ r4.2.1 ∧ r4.2.1 ≤ (List.length x0 : Int) then (if (0 : Int) < r10.1 then (if (List.length (List.drop (Int.toNat r4.2.1) x0) : Int) < r10.1 then (R.ok ((S_api_Raw.mk 0 0 0 []), 0, 21)) else (if 0 ≤ r10.1 ∧ r10.1 ≤ (List.length (List.drop (Int.toNat r4.2.1) x0) : Int) then ((varint_Unfixed (List.take (Int.toNat r10.1) (List.drop (Int.toNat r4.2.1) x0))).bind fun r44 => R.ok ((S_api_Raw.mk (IntKind.wrap .i64 (Int.fdiv r4.1 (2 ^ (min 3 64)))) (IntKind.wrap .i64 (bitsV .and .u64 r4.1 7)) r44 []), (IntKind.wrap .i64 (r4.2.1 + r10.1)), 0)) else R.stuck)) else ((varint_Take (List.drop (Int.toNat r4.2.1) x0)).bind fun r50 => if r50.2.2 = 0 then (if (IntKind.wrap .i64 (bitsV .and .u64 r4.1 7)) = 0 then (R.ok ((S_api_Raw.mk (IntKind.wrap .i64 (Int.fdiv r4.1 (2 ^ (min 3 64)))) (IntKind.wrap .i64 (bitsV .and .u64 r4.1 7)) r50.1 []), (IntKind.wrap .i64 (r4.2.1 + r50.2.1)), 0)) else (if (IntKind.wrap .u64 (IntKind.wrap .i64 ((List.length (List.drop (Int.toNat r4.2.1) x0) : Int) - r50.2.1))) < r50.1 then (R.ok ((S_api_Raw.mk 0 0 0 []), 0, 21)) else (if (0 ≤ (IntKind.wrap .i64 (r50.2.1 + (IntKind.wrap .i64 r50.1))) ∧ (IntKind.wrap .i64 (r50.2.1 + (IntKind.wrap .i64 r50.1))) ≤ (List.length (List.drop (Int.toNat r4.2.1) x0) : Int)) ∧ 0 ≤ r50.2.1 ∧ r50.2.1 ≤ (IntKind.wrap .i64 (r50.2.1 + (IntKind.wrap .i64 r50.1))) then ((bytes_Clone (List.drop (Int.toNat r50.2.1) (List.take (Int.toNat (IntKind.wrap .i64 (r50.2.1 + (IntKind.wrap .i64 r50.1)))) (List.drop (Int.toNat r4.2.1) x0)))).bind fun r62 => R.ok ((S_api_Raw.mk (IntKind.wrap .i64 (Int.fdiv r4.1 (2 ^ (min 3 64)))) (IntKind.wrap .i64 (bitsV .and .u64 r4.1 7)) 0 r62), (IntKind.wrap .i64 ((IntKind.wrap .i64 (r4.2.1 + r50.2.1)) + (IntKind.wrap .i64 r50.1))), 0)) else R.stuck))) else (R.ok ((S_api_Raw.mk 0 0 0 []), 0, r50.2.2)))) else R.stuck)) else (R.ok ((S_api_Raw.mk 0 0 0 []), 0, r4.2.2))
theorem wire_Take_call {h : H} {x0 : List UInt8} {Q : Out → H → Prop} {KK : (S_api_Raw × Int × Int) → Prop} {X : V → Prop} (hq : (wire_Take x0).post KK X) (hK : ∀ r, KK r → Q (.ret (.tup [.agg [.int .i64 r.1.Num, .int .i64 r.1.Kind, .int .u64 r.1.N, .sl 1 (List.map byteV r.1.B)], .int .i64 r.2.1, .int .i64 r.2.2])) h) (hX : ∀ v, X v → V.Cl 0 v ∧ Q (.panic v) h) : CA tprim 78 [.sl 1 (List.map byteV x0)] h Q := by
  refine acalln tp Try.func78 rfl (by kernel_rfl) (n := 115) rfl (rs := [.cell 2 73, .tmp 3, .tmp 4]) rfl [0, 2, 3, 4, 5, 6, 7, 8, 9, 10, 11, 12, 13, 21, 48, 54, 58, 75, 80, 90] [] true (by simp) ?_
  unfold wire_Take at hq
  simp only [initEnv, List.map_cons, List.map_nil, List.getD_cons_zero, List.getD_cons_succ, List.getD_nil, V.demote]
  rw [wp_seq]
  refine wp_region_i (by rfl) ?_
  simp only [go_sem, ↓evs_eq, Nat.reduceAdd, ↓reduceIte, Nat.reduceEqDiff, Nat.reduceBEq, Nat.reduceBNe, Nat.reduceLT, Int.reduceToNat, Int.reduceEq, Int.reduceLT, Int.reduceLE, reduceCtorEq, Nat.reduceMul, Nat.reduceLeDiff]
  rw [wp_seq]
  refine wp_region_i (by rfl) ?_
  simp only [go_sem, ↓evs_eq, Nat.reduceAdd, ↓reduceIte, Nat.reduceEqDiff, Nat.reduceBEq, Nat.reduceBNe, Nat.reduceLT, Int.reduceToNat, Int.reduceEq, Int.reduceLT, Int.reduceLE, reduceCtorEq, Nat.reduceMul, Nat.reduceLeDiff]
  obtain ⟨K69, hK70, hq⟩ := R.post_cut hq
  refine varint_Take_call (x0 := x0) hq (fun r4 hq => ?_) (fun v hv => ⟨(hX v hv).1, ?_⟩)
  · replace hq := hK70 _ hq
    simp only [go_sem, ↓evs_eq, Nat.reduceAdd, ↓reduceIte, Nat.reduceEqDiff, Nat.reduceBEq, Nat.reduceBNe, Nat.reduceLT, Int.reduceToNat, Int.reduceEq, Int.reduceLT, Int.reduceLE, reduceCtorEq, Nat.reduceMul, Nat.reduceLeDiff]
    rw [wp_seq]
    rw [wp_seq]
    refine wp_region_i (by rfl) ?_
    simp only [go_sem, ↓evs_eq, Nat.reduceAdd, ↓reduceIte, Nat.reduceEqDiff, Nat.reduceBEq, Nat.reduceBNe, Nat.reduceLT, Int.reduceToNat, Int.reduceEq, Int.reduceLT, Int.reduceLE, reduceCtorEq, Nat.reduceMul, Nat.reduceLeDiff]
    rw [wp_cond]
    simp only [go_sem, ↓evs_eq, Nat.reduceAdd, ↓reduceIte, Nat.reduceEqDiff, Nat.reduceBEq, Nat.reduceBNe, Nat.reduceLT, Int.reduceToNat, Int.reduceEq, Int.reduceLT, Int.reduceLE, reduceCtorEq, Nat.reduceMul, Nat.reduceLeDiff]
    by_cases hc6 : r4.2.2 = 0
    · replace hq := (R.post_if hq).1 hc6
      refine condK_f (congrArg (fun b => V.bool (!b)) (decide_eq_true hc6)) ?_
      try simp only [wp_skip, RC, roundK_x, roundK_g, roundK_r]
      refine Wk.same ?_
      try simp only [RC, roundK_x, roundK_g, roundK_r]
      rw [wp_seq]
      refine wp_region_i (by rfl) ?_
      simp only [go_sem, ↓evs_eq, Nat.reduceAdd, ↓reduceIte, Nat.reduceEqDiff, Nat.reduceBEq, Nat.reduceBNe, Nat.reduceLT, Int.reduceToNat, Int.reduceEq, Int.reduceLT, Int.reduceLE, reduceCtorEq, Nat.reduceMul, Nat.reduceLeDiff]
      rw [wp_seq]
      refine wp_region_i (by rfl) ?_
      simp only [go_sem, ↓evs_eq, Nat.reduceAdd, ↓reduceIte, Nat.reduceEqDiff, Nat.reduceBEq, Nat.reduceBNe, Nat.reduceLT, Int.reduceToNat, Int.reduceEq, Int.reduceLT, Int.reduceLE, reduceCtorEq, Nat.reduceMul, Nat.reduceLeDiff]
      obtain ⟨K67, hK68, hq⟩ := R.post_cut hq
      refine wire_kind_call (x0 := (IntKind.wrap .i64 (bitsV .and .u64 r4.1 7))) hq (fun r10 hq => ?_) (fun v hv => ⟨(hX v hv).1, ?_⟩)
      · replace hq := hK68 _ hq
        simp only [go_sem, ↓evs_eq, Nat.reduceAdd, ↓reduceIte, Nat.reduceEqDiff, Nat.reduceBEq, Nat.reduceBNe, Nat.reduceLT, Int.reduceToNat, Int.reduceEq, Int.reduceLT, Int.reduceLE, reduceCtorEq, Nat.reduceMul, Nat.reduceLeDiff]
        rw [wp_seq]
        obtain ⟨K18, hK19, hq⟩ := R.post_cut hq
        refine seq_gen (acall_mono tp) (σ := Bool) (fun s => [(0, .sl 1 (List.map byteV x0)), (2, .ref h.length 0), (3, .int .i64 0), (4, .int .i64 0), (5, .int .u64 r4.1), (6, .int .i64 r4.2.1), (7, .int .i64 r4.2.2), (8, .ref (h.length + 1) 0), (9, .int .i64 r10.1), (10, .bool r10.2), (11, .top), (12, .top), (13, .top), (21, .bool (!(decide (r4.2.2 = 0)))), (48, .bool s), (54, .top), (58, .top), (75, .top), (80, .top), (90, .top)]) (fun s => h ++ [.cells 73 [.int .i64 0, .int .i64 0, .int .u64 0, .nils 5 1], .cells 73 [.int .i64 (IntKind.wrap .i64 (Int.fdiv r4.1 (2 ^ (min 3 64)))), .int .i64 (IntKind.wrap .i64 (bitsV .and .u64 r4.1 7)), .int .u64 0, .nils 5 1]]) (fun s => K18 s) (fun x48m17 hq => ?_) (fun N hN20 => ?_)
        · replace hq := hK19 _ hq
          try dsimp only at hq ⊢
          rw [wp_cond]
          simp only [go_sem, ↓evs_eq, Nat.reduceAdd, ↓reduceIte, Nat.reduceEqDiff, Nat.reduceBEq, Nat.reduceBNe, Nat.reduceLT, Int.reduceToNat, Int.reduceEq, Int.reduceLT, Int.reduceLE, reduceCtorEq, Nat.reduceMul, Nat.reduceLeDiff]
          by_cases hc23 : x48m17 = true
          · replace hq := (R.post_if hq).1 hc23
            refine condK_t (congrArg V.bool (hc23)) ?_
            rw [wp_seq]
            refine wp_region_i (by rfl) ?_
            simp only [go_sem, ↓evs_eq, Nat.reduceAdd, ↓reduceIte, Nat.reduceEqDiff, Nat.reduceBEq, Nat.reduceBNe, Nat.reduceLT, Int.reduceToNat, Int.reduceEq, Int.reduceLT, Int.reduceLE, reduceCtorEq, Nat.reduceMul, Nat.reduceLeDiff]
            rw [wp_ret]
            simp only [retQ, results, resultAll, resultOne, Nat.zero_add, scopeQ, go_sem, ↓evs_eq, Nat.reduceAdd, ↓reduceIte, Nat.reduceEqDiff, Nat.reduceBEq, Nat.reduceBNe, Nat.reduceLT, Int.reduceToNat, Int.reduceEq, Int.reduceLT, Int.reduceLE, reduceCtorEq, Nat.reduceMul, Nat.reduceLeDiff]
            refine ⟨_, (.tup _ _ (LLe.cons (.agg _ _ (LLe.cons (.refl _) (LLe.cons (.refl _) (LLe.cons (.refl _) (LLe.cons (.nsl _ _) LLe.nil)))).1 (LLe.cons (.refl _) (LLe.cons (.refl _) (LLe.cons (.refl _) (LLe.cons (.nsl _ _) LLe.nil)))).2) (LLe.cons (.refl _) (LLe.cons (.refl _) LLe.nil))).1 (LLe.cons (.agg _ _ (LLe.cons (.refl _) (LLe.cons (.refl _) (LLe.cons (.refl _) (LLe.cons (.nsl _ _) LLe.nil)))).1 (LLe.cons (.refl _) (LLe.cons (.refl _) (LLe.cons (.refl _) (LLe.cons (.nsl _ _) LLe.nil)))).2) (LLe.cons (.refl _) (LLe.cons (.refl _) LLe.nil))).2), ?_⟩
            refine leave_ok rfl (.tup _ (cl_cons (.agg _ (cl_cons (.int _ _) (cl_cons (.int _ _) (cl_cons (.int _ _) (cl_cons (.sl _ _ cl_nil) cl_nil))))) (cl_cons (.int _ _) (cl_cons (.int _ _) cl_nil)))) ?_
            exact hK _ hq
          · replace hq := (R.post_if hq).2 hc23
            replace hc23 := eq_false_of_ne_true hc23
            refine condK_f (congrArg V.bool (hc23)) ?_
            try simp only [wp_skip, RC, roundK_x, roundK_g, roundK_r]
            refine Wk.same ?_
            try simp only [RC, roundK_x, roundK_g, roundK_r]
            rw [wp_seq]
            refine wp_region_i (by rfl) ?_
            obtain ⟨g25, hq⟩ := R.guard hq
            simp only [go_sem, ↓evs_eq, Nat.reduceAdd, ↓reduceIte, Nat.reduceEqDiff, Nat.reduceBEq, Nat.reduceBNe, Nat.reduceLT, Int.reduceToNat, Int.reduceEq, Int.reduceLT, Int.reduceLE, reduceCtorEq, Nat.reduceMul, Nat.reduceLeDiff]
            repeat (with_reducible refine And.intro (by first | omega | assumption) ?_)
            rw [wp_seq]
            rw [wp_seq]
            refine wp_region_i (by rfl) ?_
            simp only [go_sem, ↓evs_eq, Nat.reduceAdd, ↓reduceIte, Nat.reduceEqDiff, Nat.reduceBEq, Nat.reduceBNe, Nat.reduceLT, Int.reduceToNat, Int.reduceEq, Int.reduceLT, Int.reduceLE, reduceCtorEq, Nat.reduceMul, Nat.reduceLeDiff]
            rw [wp_cond]
            simp only [go_sem, ↓evs_eq, Nat.reduceAdd, ↓reduceIte, Nat.reduceEqDiff, Nat.reduceBEq, Nat.reduceBNe, Nat.reduceLT, Int.reduceToNat, Int.reduceEq, Int.reduceLT, Int.reduceLE, reduceCtorEq, Nat.reduceMul, Nat.reduceLeDiff]
            by_cases hc37 : (0 : Int) < r10.1
            · replace hq := (R.post_if hq).1 hc37
              refine condK_t (congrArg V.bool (decide_eq_true hc37)) ?_
              rw [wp_seq]
              rw [wp_seq]
              refine wp_region_i (by rfl) ?_
              simp only [go_sem, ↓evs_eq, Nat.reduceAdd, ↓reduceIte, Nat.reduceEqDiff, Nat.reduceBEq, Nat.reduceBNe, Nat.reduceLT, Int.reduceToNat, Int.reduceEq, Int.reduceLT, Int.reduceLE, reduceCtorEq, Nat.reduceMul, Nat.reduceLeDiff]
              rw [wp_cond]
              simp only [go_sem, ↓evs_eq, Nat.reduceAdd, ↓reduceIte, Nat.reduceEqDiff, Nat.reduceBEq, Nat.reduceBNe, Nat.reduceLT, Int.reduceToNat, Int.reduceEq, Int.reduceLT, Int.reduceLE, reduceCtorEq, Nat.reduceMul, Nat.reduceLeDiff]
              by_cases hc38 : (List.length (List.drop (Int.toNat r4.2.1) x0) : Int) < r10.1
              · replace hq := (R.post_if hq).1 hc38
                refine condK_t (congrArg V.bool (decide_eq_true hc38)) ?_
                rw [wp_seq]
                refine wp_region_i (by rfl) ?_
                simp only [go_sem, ↓evs_eq, Nat.reduceAdd, ↓reduceIte, Nat.reduceEqDiff, Nat.reduceBEq, Nat.reduceBNe, Nat.reduceLT, Int.reduceToNat, Int.reduceEq, Int.reduceLT, Int.reduceLE, reduceCtorEq, Nat.reduceMul, Nat.reduceLeDiff]
                rw [wp_ret]
                simp only [retQ, results, resultAll, resultOne, Nat.zero_add, scopeQ, go_sem, ↓evs_eq, Nat.reduceAdd, ↓reduceIte, Nat.reduceEqDiff, Nat.reduceBEq, Nat.reduceBNe, Nat.reduceLT, Int.reduceToNat, Int.reduceEq, Int.reduceLT, Int.reduceLE, reduceCtorEq, Nat.reduceMul, Nat.reduceLeDiff]
                refine ⟨_, (.tup _ _ (LLe.cons (.agg _ _ (LLe.cons (.refl _) (LLe.cons (.refl _) (LLe.cons (.refl _) (LLe.cons (.nsl _ _) LLe.nil)))).1 (LLe.cons (.refl _) (LLe.cons (.refl _) (LLe.cons (.refl _) (LLe.cons (.nsl _ _) LLe.nil)))).2) (LLe.cons (.refl _) (LLe.cons (.refl _) LLe.nil))).1 (LLe.cons (.agg _ _ (LLe.cons (.refl _) (LLe.cons (.refl _) (LLe.cons (.refl _) (LLe.cons (.nsl _ _) LLe.nil)))).1 (LLe.cons (.refl _) (LLe.cons (.refl _) (LLe.cons (.refl _) (LLe.cons (.nsl _ _) LLe.nil)))).2) (LLe.cons (.refl _) (LLe.cons (.refl _) LLe.nil))).2), ?_⟩
                refine leave_ok rfl (.tup _ (cl_cons (.agg _ (cl_cons (.int _ _) (cl_cons (.int _ _) (cl_cons (.int _ _) (cl_cons (.sl _ _ cl_nil) cl_nil))))) (cl_cons (.int _ _) (cl_cons (.int _ _) cl_nil)))) ?_
                exact hK _ hq
              · replace hq := (R.post_if hq).2 hc38
                refine condK_f (congrArg V.bool (decide_eq_false hc38)) ?_
                try simp only [wp_skip, RC, roundK_x, roundK_g, roundK_r]
                refine Wk.same ?_
                try simp only [RC, roundK_x, roundK_g, roundK_r]
                rw [wp_seq]
                refine wp_region_i (by rfl) ?_
                obtain ⟨g43, hq⟩ := R.guard hq
                simp only [go_sem, ↓evs_eq, Nat.reduceAdd, ↓reduceIte, Nat.reduceEqDiff, Nat.reduceBEq, Nat.reduceBNe, Nat.reduceLT, Int.reduceToNat, Int.reduceEq, Int.reduceLT, Int.reduceLE, reduceCtorEq, Nat.reduceMul, Nat.reduceLeDiff]
                repeat (with_reducible refine And.intro (by first | omega | assumption) ?_)
                obtain ⟨K45, hK46, hq⟩ := R.post_cut hq
                refine varint_Unfixed_call (x0 := (List.take (Int.toNat r10.1) (List.drop (Int.toNat r4.2.1) x0))) hq (fun r44 hq => ?_) (fun v hv => ⟨(hX v hv).1, ?_⟩)
                · replace hq := hK46 _ hq
                  simp only [go_sem, ↓evs_eq, Nat.reduceAdd, ↓reduceIte, Nat.reduceEqDiff, Nat.reduceBEq, Nat.reduceBNe, Nat.reduceLT, Int.reduceToNat, Int.reduceEq, Int.reduceLT, Int.reduceLE, reduceCtorEq, Nat.reduceMul, Nat.reduceLeDiff]
                  rw [wp_seq]
                  refine wp_region_i (by rfl) ?_
                  simp only [go_sem, ↓evs_eq, Nat.reduceAdd, ↓reduceIte, Nat.reduceEqDiff, Nat.reduceBEq, Nat.reduceBNe, Nat.reduceLT, Int.reduceToNat, Int.reduceEq, Int.reduceLT, Int.reduceLE, reduceCtorEq, Nat.reduceMul, Nat.reduceLeDiff]
                  rw [wp_ret]
                  simp only [retQ, results, resultAll, resultOne, Nat.zero_add, scopeQ, go_sem, ↓evs_eq, Nat.reduceAdd, ↓reduceIte, Nat.reduceEqDiff, Nat.reduceBEq, Nat.reduceBNe, Nat.reduceLT, Int.reduceToNat, Int.reduceEq, Int.reduceLT, Int.reduceLE, reduceCtorEq, Nat.reduceMul, Nat.reduceLeDiff]
                  refine ⟨_, (.tup _ _ (LLe.cons (.agg _ _ (LLe.cons (.refl _) (LLe.cons (.refl _) (LLe.cons (.refl _) (LLe.cons (.nsl _ _) LLe.nil)))).1 (LLe.cons (.refl _) (LLe.cons (.refl _) (LLe.cons (.refl _) (LLe.cons (.nsl _ _) LLe.nil)))).2) (LLe.cons (.refl _) (LLe.cons (.refl _) LLe.nil))).1 (LLe.cons (.agg _ _ (LLe.cons (.refl _) (LLe.cons (.refl _) (LLe.cons (.refl _) (LLe.cons (.nsl _ _) LLe.nil)))).1 (LLe.cons (.refl _) (LLe.cons (.refl _) (LLe.cons (.refl _) (LLe.cons (.nsl _ _) LLe.nil)))).2) (LLe.cons (.refl _) (LLe.cons (.refl _) LLe.nil))).2), ?_⟩
                  refine leave_ok rfl (.tup _ (cl_cons (.agg _ (cl_cons (.int _ _) (cl_cons (.int _ _) (cl_cons (.int _ _) (cl_cons (.sl _ _ cl_nil) cl_nil))))) (cl_cons (.int _ _) (cl_cons (.int _ _) cl_nil)))) ?_
                  exact hK _ hq
                · simp only [RC, roundK_x, roundK_g, roundK_r, scopeQ, retQ, ↓reduceIte, Bool.false_eq_true]
                  exact leaveP_ok ((hX _ hv).1.mono (Nat.zero_le _)) (hX _ hv).2
            · replace hq := (R.post_if hq).2 hc37
              refine condK_f (congrArg V.bool (decide_eq_false hc37)) ?_
              try simp only [wp_skip, RC, roundK_x, roundK_g, roundK_r]
              refine Wk.same ?_
              try simp only [RC, roundK_x, roundK_g, roundK_r]
              rw [wp_seq]
              refine wp_region_i (by rfl) ?_
              simp only [go_sem, ↓evs_eq, Nat.reduceAdd, ↓reduceIte, Nat.reduceEqDiff, Nat.reduceBEq, Nat.reduceBNe, Nat.reduceLT, Int.reduceToNat, Int.reduceEq, Int.reduceLT, Int.reduceLE, reduceCtorEq, Nat.reduceMul, Nat.reduceLeDiff]
              obtain ⟨K65, hK66, hq⟩ := R.post_cut hq
              refine varint_Take_call (x0 := (List.drop (Int.toNat r4.2.1) x0)) hq (fun r50 hq => ?_) (fun v hv => ⟨(hX v hv).1, ?_⟩)
              · replace hq := hK66 _ hq
                simp only [go_sem, ↓evs_eq, Nat.reduceAdd, ↓reduceIte, Nat.reduceEqDiff, Nat.reduceBEq, Nat.reduceBNe, Nat.reduceLT, Int.reduceToNat, Int.reduceEq, Int.reduceLT, Int.reduceLE, reduceCtorEq, Nat.reduceMul, Nat.reduceLeDiff]
                rw [wp_seq]
                rw [wp_block]
                rw [wp_seq]
                refine wp_region_i (by rfl) ?_
                simp only [go_sem, ↓evs_eq, Nat.reduceAdd, ↓reduceIte, Nat.reduceEqDiff, Nat.reduceBEq, Nat.reduceBNe, Nat.reduceLT, Int.reduceToNat, Int.reduceEq, Int.reduceLT, Int.reduceLE, reduceCtorEq, Nat.reduceMul, Nat.reduceLeDiff]
                rw [wp_cond]
                simp only [go_sem, ↓evs_eq, Nat.reduceAdd, ↓reduceIte, Nat.reduceEqDiff, Nat.reduceBEq, Nat.reduceBNe, Nat.reduceLT, Int.reduceToNat, Int.reduceEq, Int.reduceLT, Int.reduceLE, reduceCtorEq, Nat.reduceMul, Nat.reduceLeDiff]
                by_cases hc54 : r50.2.2 = 0
                · replace hq := (R.post_if hq).1 hc54
                  refine condK_f (congrArg (fun b => V.bool (!b)) (decide_eq_true hc54)) ?_
                  rw [wp_seq]
                  refine wp_region_i (by rfl) ?_
                  simp only [go_sem, ↓evs_eq, Nat.reduceAdd, ↓reduceIte, Nat.reduceEqDiff, Nat.reduceBEq, Nat.reduceBNe, Nat.reduceLT, Int.reduceToNat, Int.reduceEq, Int.reduceLT, Int.reduceLE, reduceCtorEq, Nat.reduceMul, Nat.reduceLeDiff]
                  rw [wp_cond]
                  simp only [go_sem, ↓evs_eq, Nat.reduceAdd, ↓reduceIte, Nat.reduceEqDiff, Nat.reduceBEq, Nat.reduceBNe, Nat.reduceLT, Int.reduceToNat, Int.reduceEq, Int.reduceLT, Int.reduceLE, reduceCtorEq, Nat.reduceMul, Nat.reduceLeDiff]
                  by_cases hc55 : (IntKind.wrap .i64 (bitsV .and .u64 r4.1 7)) = 0
                  · replace hq := (R.post_if hq).1 hc55
                    refine condK_t (congrArg V.bool (decide_eq_true hc55)) ?_
                    rw [wp_seq]
                    refine wp_region_i (by rfl) ?_
                    simp only [go_sem, ↓evs_eq, Nat.reduceAdd, ↓reduceIte, Nat.reduceEqDiff, Nat.reduceBEq, Nat.reduceBNe, Nat.reduceLT, Int.reduceToNat, Int.reduceEq, Int.reduceLT, Int.reduceLE, reduceCtorEq, Nat.reduceMul, Nat.reduceLeDiff]
                    rw [wp_seq]
                    refine wp_region_i (by rfl) ?_
                    simp only [go_sem, ↓evs_eq, Nat.reduceAdd, ↓reduceIte, Nat.reduceEqDiff, Nat.reduceBEq, Nat.reduceBNe, Nat.reduceLT, Int.reduceToNat, Int.reduceEq, Int.reduceLT, Int.reduceLE, reduceCtorEq, Nat.reduceMul, Nat.reduceLeDiff]
                    rw [wp_ret]
                    simp only [retQ, results, resultAll, resultOne, Nat.zero_add, scopeQ, go_sem, ↓evs_eq, Nat.reduceAdd, ↓reduceIte, Nat.reduceEqDiff, Nat.reduceBEq, Nat.reduceBNe, Nat.reduceLT, Int.reduceToNat, Int.reduceEq, Int.reduceLT, Int.reduceLE, reduceCtorEq, Nat.reduceMul, Nat.reduceLeDiff]
                    refine ⟨_, (.tup _ _ (LLe.cons (.agg _ _ (LLe.cons (.refl _) (LLe.cons (.refl _) (LLe.cons (.refl _) (LLe.cons (.nsl _ _) LLe.nil)))).1 (LLe.cons (.refl _) (LLe.cons (.refl _) (LLe.cons (.refl _) (LLe.cons (.nsl _ _) LLe.nil)))).2) (LLe.cons (.refl _) (LLe.cons (.refl _) LLe.nil))).1 (LLe.cons (.agg _ _ (LLe.cons (.refl _) (LLe.cons (.refl _) (LLe.cons (.refl _) (LLe.cons (.nsl _ _) LLe.nil)))).1 (LLe.cons (.refl _) (LLe.cons (.refl _) (LLe.cons (.refl _) (LLe.cons (.nsl _ _) LLe.nil)))).2) (LLe.cons (.refl _) (LLe.cons (.refl _) LLe.nil))).2), ?_⟩
                    refine leave_ok rfl (.tup _ (cl_cons (.agg _ (cl_cons (.int _ _) (cl_cons (.int _ _) (cl_cons (.int _ _) (cl_cons (.sl _ _ cl_nil) cl_nil))))) (cl_cons (.int _ _) (cl_cons (.int _ _) cl_nil)))) ?_
                    exact hK _ hq
                  · replace hq := (R.post_if hq).2 hc55
                    refine condK_f (congrArg V.bool (decide_eq_false hc55)) ?_
                    rw [wp_seq]
                    refine wp_region_i (by rfl) ?_
                    simp only [go_sem, ↓evs_eq, Nat.reduceAdd, ↓reduceIte, Nat.reduceEqDiff, Nat.reduceBEq, Nat.reduceBNe, Nat.reduceLT, Int.reduceToNat, Int.reduceEq, Int.reduceLT, Int.reduceLE, reduceCtorEq, Nat.reduceMul, Nat.reduceLeDiff]
                    rw [wp_cond]
                    simp only [go_sem, ↓evs_eq, Nat.reduceAdd, ↓reduceIte, Nat.reduceEqDiff, Nat.reduceBEq, Nat.reduceBNe, Nat.reduceLT, Int.reduceToNat, Int.reduceEq, Int.reduceLT, Int.reduceLE, reduceCtorEq, Nat.reduceMul, Nat.reduceLeDiff]
                    by_cases hc56 : (IntKind.wrap .u64 (IntKind.wrap .i64 ((List.length (List.drop (Int.toNat r4.2.1) x0) : Int) - r50.2.1))) < r50.1
                    · replace hq := (R.post_if hq).1 hc56
                      refine condK_t (congrArg V.bool (decide_eq_true hc56)) ?_
                      rw [wp_seq]
                      refine wp_region_i (by rfl) ?_
                      simp only [go_sem, ↓evs_eq, Nat.reduceAdd, ↓reduceIte, Nat.reduceEqDiff, Nat.reduceBEq, Nat.reduceBNe, Nat.reduceLT, Int.reduceToNat, Int.reduceEq, Int.reduceLT, Int.reduceLE, reduceCtorEq, Nat.reduceMul, Nat.reduceLeDiff]
                      rw [wp_ret]
                      simp only [retQ, results, resultAll, resultOne, Nat.zero_add, scopeQ, go_sem, ↓evs_eq, Nat.reduceAdd, ↓reduceIte, Nat.reduceEqDiff, Nat.reduceBEq, Nat.reduceBNe, Nat.reduceLT, Int.reduceToNat, Int.reduceEq, Int.reduceLT, Int.reduceLE, reduceCtorEq, Nat.reduceMul, Nat.reduceLeDiff]
                      refine ⟨_, (.tup _ _ (LLe.cons (.agg _ _ (LLe.cons (.refl _) (LLe.cons (.refl _) (LLe.cons (.refl _) (LLe.cons (.nsl _ _) LLe.nil)))).1 (LLe.cons (.refl _) (LLe.cons (.refl _) (LLe.cons (.refl _) (LLe.cons (.nsl _ _) LLe.nil)))).2) (LLe.cons (.refl _) (LLe.cons (.refl _) LLe.nil))).1 (LLe.cons (.agg _ _ (LLe.cons (.refl _) (LLe.cons (.refl _) (LLe.cons (.refl _) (LLe.cons (.nsl _ _) LLe.nil)))).1 (LLe.cons (.refl _) (LLe.cons (.refl _) (LLe.cons (.refl _) (LLe.cons (.nsl _ _) LLe.nil)))).2) (LLe.cons (.refl _) (LLe.cons (.refl _) LLe.nil))).2), ?_⟩
                      refine leave_ok rfl (.tup _ (cl_cons (.agg _ (cl_cons (.int _ _) (cl_cons (.int _ _) (cl_cons (.int _ _) (cl_cons (.sl _ _ cl_nil) cl_nil))))) (cl_cons (.int _ _) (cl_cons (.int _ _) cl_nil)))) ?_
                      exact hK _ hq
                    · replace hq := (R.post_if hq).2 hc56
                      refine condK_f (congrArg V.bool (decide_eq_false hc56)) ?_
                      try simp only [wp_skip, RC, roundK_x, roundK_g, roundK_r]
                      refine Wk.same ?_
                      try simp only [RC, roundK_x, roundK_g, roundK_r]
                      refine Wk.same ?_
                      try simp only [RC, roundK_x, roundK_g, roundK_r]
                      refine Wk.same ?_
                      try simp only [RC, roundK_x, roundK_g, roundK_r]
                      refine Wk.same ?_
                      try simp only [RC, roundK_x, roundK_g, roundK_r]
                      rw [wp_seq]
                      refine wp_region_i (by rfl) ?_
                      obtain ⟨g61, hq⟩ := R.guard hq
                      simp only [go_sem, ↓evs_eq, Nat.reduceAdd, ↓reduceIte, Nat.reduceEqDiff, Nat.reduceBEq, Nat.reduceBNe, Nat.reduceLT, Int.reduceToNat, Int.reduceEq, Int.reduceLT, Int.reduceLE, reduceCtorEq, Nat.reduceMul, Nat.reduceLeDiff]
                      repeat (with_reducible refine And.intro (by first | omega | assumption) ?_)
                      obtain ⟨K63, hK64, hq⟩ := R.post_cut hq
                      refine bytes_Clone_call (x0 := (List.drop (Int.toNat r50.2.1) (List.take (Int.toNat (IntKind.wrap .i64 (r50.2.1 + (IntKind.wrap .i64 r50.1)))) (List.drop (Int.toNat r4.2.1) x0)))) hq (fun r62 hq => ?_) (fun v hv => ⟨(hX v hv).1, ?_⟩)
                      · replace hq := hK64 _ hq
                        simp only [go_sem, ↓evs_eq, Nat.reduceAdd, ↓reduceIte, Nat.reduceEqDiff, Nat.reduceBEq, Nat.reduceBNe, Nat.reduceLT, Int.reduceToNat, Int.reduceEq, Int.reduceLT, Int.reduceLE, reduceCtorEq, Nat.reduceMul, Nat.reduceLeDiff]
                        rw [wp_seq]
                        refine wp_region_i (by rfl) ?_
                        simp only [go_sem, ↓evs_eq, Nat.reduceAdd, ↓reduceIte, Nat.reduceEqDiff, Nat.reduceBEq, Nat.reduceBNe, Nat.reduceLT, Int.reduceToNat, Int.reduceEq, Int.reduceLT, Int.reduceLE, reduceCtorEq, Nat.reduceMul, Nat.reduceLeDiff]
                        rw [wp_ret]
                        simp only [retQ, results, resultAll, resultOne, Nat.zero_add, scopeQ, go_sem, ↓evs_eq, Nat.reduceAdd, ↓reduceIte, Nat.reduceEqDiff, Nat.reduceBEq, Nat.reduceBNe, Nat.reduceLT, Int.reduceToNat, Int.reduceEq, Int.reduceLT, Int.reduceLE, reduceCtorEq, Nat.reduceMul, Nat.reduceLeDiff]
                        refine ⟨_, (.refl _), ?_⟩
                        refine leave_ok rfl (.tup _ (cl_cons (.agg _ (cl_cons (.int _ _) (cl_cons (.int _ _) (cl_cons (.int _ _) (cl_cons (.sl _ _ (cl_map (fun x => cl_byte x))) cl_nil))))) (cl_cons (.int _ _) (cl_cons (.int _ _) cl_nil)))) ?_
                        exact hK _ hq
                      · simp only [RC, roundK_x, roundK_g, roundK_r, scopeQ, retQ, ↓reduceIte, Bool.false_eq_true]
                        exact leaveP_ok ((hX _ hv).1.mono (Nat.zero_le _)) (hX _ hv).2
                · replace hq := (R.post_if hq).2 hc54
                  refine condK_t (congrArg (fun b => V.bool (!b)) (decide_eq_false hc54)) ?_
                  rw [wp_seq]
                  refine wp_region_i (by rfl) ?_
                  simp only [go_sem, ↓evs_eq, Nat.reduceAdd, ↓reduceIte, Nat.reduceEqDiff, Nat.reduceBEq, Nat.reduceBNe, Nat.reduceLT, Int.reduceToNat, Int.reduceEq, Int.reduceLT, Int.reduceLE, reduceCtorEq, Nat.reduceMul, Nat.reduceLeDiff]
                  rw [wp_ret]
                  simp only [retQ, results, resultAll, resultOne, Nat.zero_add, scopeQ, go_sem, ↓evs_eq, Nat.reduceAdd, ↓reduceIte, Nat.reduceEqDiff, Nat.reduceBEq, Nat.reduceBNe, Nat.reduceLT, Int.reduceToNat, Int.reduceEq, Int.reduceLT, Int.reduceLE, reduceCtorEq, Nat.reduceMul, Nat.reduceLeDiff]
                  refine ⟨_, (.tup _ _ (LLe.cons (.agg _ _ (LLe.cons (.refl _) (LLe.cons (.refl _) (LLe.cons (.refl _) (LLe.cons (.nsl _ _) LLe.nil)))).1 (LLe.cons (.refl _) (LLe.cons (.refl _) (LLe.cons (.refl _) (LLe.cons (.nsl _ _) LLe.nil)))).2) (LLe.cons (.refl _) (LLe.cons (.refl _) LLe.nil))).1 (LLe.cons (.agg _ _ (LLe.cons (.refl _) (LLe.cons (.refl _) (LLe.cons (.refl _) (LLe.cons (.nsl _ _) LLe.nil)))).1 (LLe.cons (.refl _) (LLe.cons (.refl _) (LLe.cons (.refl _) (LLe.cons (.nsl _ _) LLe.nil)))).2) (LLe.cons (.refl _) (LLe.cons (.refl _) LLe.nil))).2), ?_⟩
                  refine leave_ok rfl (.tup _ (cl_cons (.agg _ (cl_cons (.int _ _) (cl_cons (.int _ _) (cl_cons (.int _ _) (cl_cons (.sl _ _ cl_nil) cl_nil))))) (cl_cons (.int _ _) (cl_cons (.int _ _) cl_nil)))) ?_
                  exact hK _ hq
              · simp only [RC, roundK_x, roundK_g, roundK_r, scopeQ, retQ, ↓reduceIte, Bool.false_eq_true]
                exact leaveP_ok ((hX _ hv).1.mono (Nat.zero_le _)) (hX _ hv).2
        · refine wp_region_i (by rfl) ?_
          simp only [go_sem, ↓evs_eq, Nat.reduceAdd, ↓reduceIte, Nat.reduceEqDiff, Nat.reduceBEq, Nat.reduceBNe, Nat.reduceLT, Int.reduceToNat, Int.reduceEq, Int.reduceLT, Int.reduceLE, reduceCtorEq, Nat.reduceMul, Nat.reduceLeDiff]
          by_cases hc21 : (Int.fdiv r4.1 (2 ^ (min 32 64))) = 0
          · replace hq := (R.post_if hq).1 hc21
            simp only [decide_eq_true hc21, go_sem, ↓evs_eq, Nat.reduceAdd, ↓reduceIte, Nat.reduceEqDiff, Nat.reduceBEq, Nat.reduceBNe, Nat.reduceLT, Int.reduceToNat, Int.reduceEq, Int.reduceLT, Int.reduceLE, reduceCtorEq, Nat.reduceMul, Nat.reduceLeDiff]
            by_cases hc22 : (IntKind.wrap .i64 (Int.fdiv r4.1 (2 ^ (min 3 64)))) = 0
            · replace hq := (R.post_if hq).1 hc22
              simp only [decide_eq_true hc22, go_sem, ↓evs_eq, Nat.reduceAdd, ↓reduceIte, Nat.reduceEqDiff, Nat.reduceBEq, Nat.reduceBNe, Nat.reduceLT, Int.reduceToNat, Int.reduceEq, Int.reduceLT, Int.reduceLE, reduceCtorEq, Nat.reduceMul, Nat.reduceLeDiff]
              exact hN20 true hq
            · replace hq := (R.post_if hq).2 hc22
              simp only [decide_eq_false hc22, go_sem, ↓evs_eq, Nat.reduceAdd, ↓reduceIte, Nat.reduceEqDiff, Nat.reduceBEq, Nat.reduceBNe, Nat.reduceLT, Int.reduceToNat, Int.reduceEq, Int.reduceLT, Int.reduceLE, reduceCtorEq, Nat.reduceMul, Nat.reduceLeDiff]
              exact hN20 (!r10.2) hq
          · replace hq := (R.post_if hq).2 hc21
            simp only [decide_eq_false hc21, go_sem, ↓evs_eq, Nat.reduceAdd, ↓reduceIte, Nat.reduceEqDiff, Nat.reduceBEq, Nat.reduceBNe, Nat.reduceLT, Int.reduceToNat, Int.reduceEq, Int.reduceLT, Int.reduceLE, reduceCtorEq, Nat.reduceMul, Nat.reduceLeDiff]
            exact hN20 true hq
      · simp only [RC, roundK_x, roundK_g, roundK_r, scopeQ, retQ, ↓reduceIte, Bool.false_eq_true]
        exact leaveP_ok ((hX _ hv).1.mono (Nat.zero_le _)) (hX _ hv).2
    · replace hq := (R.post_if hq).2 hc6
      refine condK_t (congrArg (fun b => V.bool (!b)) (decide_eq_false hc6)) ?_
      rw [wp_seq]
      refine wp_region_i (by rfl) ?_
      simp only [go_sem, ↓evs_eq, Nat.reduceAdd, ↓reduceIte, Nat.reduceEqDiff, Nat.reduceBEq, Nat.reduceBNe, Nat.reduceLT, Int.reduceToNat, Int.reduceEq, Int.reduceLT, Int.reduceLE, reduceCtorEq, Nat.reduceMul, Nat.reduceLeDiff]
      rw [wp_ret]
      simp only [retQ, results, resultAll, resultOne, Nat.zero_add, scopeQ, go_sem, ↓evs_eq, Nat.reduceAdd, ↓reduceIte, Nat.reduceEqDiff, Nat.reduceBEq, Nat.reduceBNe, Nat.reduceLT, Int.reduceToNat, Int.reduceEq, Int.reduceLT, Int.reduceLE, reduceCtorEq, Nat.reduceMul, Nat.reduceLeDiff]
      refine ⟨_, (.tup _ _ (LLe.cons (.agg _ _ (LLe.cons (.refl _) (LLe.cons (.refl _) (LLe.cons (.refl _) (LLe.cons (.nsl _ _) LLe.nil)))).1 (LLe.cons (.refl _) (LLe.cons (.refl _) (LLe.cons (.refl _) (LLe.cons (.nsl _ _) LLe.nil)))).2) (LLe.cons (.refl _) (LLe.cons (.refl _) LLe.nil))).1 (LLe.cons (.agg _ _ (LLe.cons (.refl _) (LLe.cons (.refl _) (LLe.cons (.refl _) (LLe.cons (.nsl _ _) LLe.nil)))).1 (LLe.cons (.refl _) (LLe.cons (.refl _) (LLe.cons (.refl _) (LLe.cons (.nsl _ _) LLe.nil)))).2) (LLe.cons (.refl _) (LLe.cons (.refl _) LLe.nil))).2), ?_⟩
      refine leave_ok rfl (.tup _ (cl_cons (.agg _ (cl_cons (.int _ _) (cl_cons (.int _ _) (cl_cons (.int _ _) (cl_cons (.sl _ _ cl_nil) cl_nil))))) (cl_cons (.int _ _) (cl_cons (.int _ _) cl_nil)))) ?_
      exact hK _ hq
  · simp only [RC, roundK_x, roundK_g, roundK_r, scopeQ, retQ, ↓reduceIte, Bool.false_eq_true]
    exact leaveP_ok ((hX _ hv).1.mono (Nat.zero_le _)) (hX _ hv).2
end Go.Proofs.Ytpbnnbjkjaajnaa.Pv.T
