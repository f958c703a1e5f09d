/- Functions of the program, as plain Lean functions, and that the code comes to them: printed by gen.py. Functions of the program, as plain Lean functions, and that the code comes to them: printed by gen.py. -/
import Derived.Test.YtpbnnbjkjaajnaaG8
set_option linter.unusedVariables false
set_option linter.unusedSimpArgs false
set_option maxHeartbeats 4000000
set_option maxRecDepth 10000
namespace Go.Proofs.Ytpbnnbjkjaajnaa.Pv
open Go Go.Proofs

attribute [local go_sem] RC RL RM roundK_x roundK_g roundK_r loadN V.slz V.slz1 lnB V.left V.lenOf slice3 sliceNil Option.getD_none Option.getD_some sliceOp cut upon_each nextM entryOp buildOk lookup lookV update elemOf Option.isSome_map unOp wanted aop tkB rwB neD Env.get Env.put Env.keep putD dstOk ev constV nilSlice V.demote V.toOwn V.asOwn V.cells tyE R1.res binOp isShift binOpT isC intOp strOp shiftOp byteV index indexAddr slice bounds hiB loB withB maxV minV evs pickV lenV builtin initEnv convert K.isU8 strOf load store fieldOf append appT fltOp cpxV realV imagV toInt rangeOp nextOp room fill placeOf splice repl chunks Ty.val Ty.agg V.plain H.row H.ety AObj.row putAll demEnv updH S_api_Message.enc_eq S_api_Field.enc S_api_Enum.enc S_api_Value.enc S_api_Range.enc S_api_Oneof.enc S_api_File.enc S_api_Service.enc S_api_Method.enc S_api_Raw.enc
def glossaryref01_Take_j0 (r4 : Int × Int × Int) (x0 : List UInt8) (x10_50 : Int) : R (S_api_Raw × Int × Int) :=
  if (List.length (List.drop (Int.toNat r4.2.1) x0) : Int) < x10_50 then (R.ok ((S_api_Raw.mk 0 0 0 []), 0, 21)) else (if 0 ≤ x10_50 ∧ x10_50 ≤ (List.length (List.drop (Int.toNat r4.2.1) x0) : Int) then ((glossaryref01_Unfixed (List.take (Int.toNat x10_50) (List.drop (Int.toNat r4.2.1) x0))).bind fun r58 => R.ok ((S_api_Raw.mk (IntKind.wrap .i64 (IntKind.wrap .u64 (Int.tdiv r4.1 8))) (IntKind.wrap .i64 (Int.tmod r4.1 8)) r58 []), (IntKind.wrap .i64 (r4.2.1 + x10_50)), 0)) else R.stuck)
def glossaryref01_Take_j1 (r4 : Int × Int × Int) (x0 : List UInt8) (x49_48 : Bool) : R (S_api_Raw × Int × Int) :=
  if x49_48 = true then (if (IntKind.wrap .i64 (Int.tmod r4.1 8)) = 5 then (glossaryref01_Take_j0 r4 x0 4) else (glossaryref01_Take_j0 r4 x0 8)) else ((glossaryref01_TakeVarint (List.drop (Int.toNat r4.2.1) x0)).bind fun r66 => if r66.2.2 = 0 then (if (IntKind.wrap .i64 (Int.tmod r4.1 8)) = 0 then (R.ok ((S_api_Raw.mk (IntKind.wrap .i64 (IntKind.wrap .u64 (Int.tdiv r4.1 8))) (IntKind.wrap .i64 (Int.tmod r4.1 8)) r66.1 []), (IntKind.wrap .i64 (r4.2.1 + r66.2.1)), 0)) else (if (IntKind.wrap .u64 (IntKind.wrap .i64 ((List.length (List.drop (Int.toNat r4.2.1) x0) : Int) - r66.2.1))) < r66.1 then (R.ok ((S_api_Raw.mk 0 0 0 []), 0, 21)) else (if (0 ≤ (IntKind.wrap .i64 (r66.2.1 + (IntKind.wrap .i64 r66.1))) ∧ (IntKind.wrap .i64 (r66.2.1 + (IntKind.wrap .i64 r66.1))) ≤ (List.length (List.drop (Int.toNat r4.2.1) x0) : Int)) ∧ 0 ≤ r66.2.1 ∧ r66.2.1 ≤ (IntKind.wrap .i64 (r66.2.1 + (IntKind.wrap .i64 r66.1))) then (if List.length (List.drop (Int.toNat r66.2.1) (List.take (Int.toNat (IntKind.wrap .i64 (r66.2.1 + (IntKind.wrap .i64 r66.1)))) (List.drop (Int.toNat r4.2.1) x0))) ≤ 1000000000 then (R.ok ((S_api_Raw.mk (IntKind.wrap .i64 (IntKind.wrap .u64 (Int.tdiv r4.1 8))) (IntKind.wrap .i64 (Int.tmod r4.1 8)) 0 (List.drop (Int.toNat r66.2.1) (List.take (Int.toNat (IntKind.wrap .i64 (r66.2.1 + (IntKind.wrap .i64 r66.1)))) (List.drop (Int.toNat r4.2.1) x0)))), (IntKind.wrap .i64 ((IntKind.wrap .i64 (r4.2.1 + r66.2.1)) + (IntKind.wrap .i64 r66.1))), 0)) else R.stuck) else R.stuck))) else (R.ok ((S_api_Raw.mk 0 0 0 []), 0, r66.2.2)))
def glossaryref01_Take (x0 : List UInt8) : R (S_api_Raw × Int × Int) :=
  (glossaryref01_TakeVarint x0).bind fun r4 => if r4.2.2 = 0 then ((if (4294967296 : Int) ≤ r4.1 then (R.ok true) else (if r4.1 < 8 then (R.ok true) else ((glossaryref01_kind (IntKind.wrap .i64 (Int.tmod r4.1 8))).bind fun r25 => R.ok (!r25)))).bind fun x35m19 => if x35m19 = true then (R.ok ((S_api_Raw.mk 0 0 0 []), 0, 20)) else (if 0 ≤ r4.2.1 ∧ r4.2.1 ≤ (List.length x0 : Int) then (if (IntKind.wrap .i64 (Int.tmod r4.1 8)) = 1 then (glossaryref01_Take_j1 r4 x0 (decide ((IntKind.wrap .i64 (Int.tmod r4.1 8)) = 1))) else (glossaryref01_Take_j1 r4 x0 (decide ((IntKind.wrap .i64 (Int.tmod r4.1 8)) = 5)))) else R.stuck)) else (R.ok ((S_api_Raw.mk 0 0 0 []), 0, r4.2.2))
theorem glossaryref01_Take_call {h : H} {x0 : List UInt8} {Q : Out → H → Prop} {KK : (S_api_Raw × Int × Int) → Prop} {X : V → Prop} (hq : (glossaryref01_Take x0).post KK X) (hK : ∀ r, KK r → Q (.ret (.tup [.agg [.int .i64 r.1.Num, .int .i64 r.1.Kind, .int .u64 r.1.N, .sl 1 (List.map byteV r.1.B)], .int .i64 r.2.1, .int .i64 r.2.2])) h) (hX : ∀ v, X v → V.Cl 0 v ∧ Q (.panic v) h) : CA qprim 47 [.sl 1 (List.map byteV x0)] h Q := by
  refine acalln hp Try.func47 rfl (by kernel_rfl) (n := 112) rfl (rs := [.cell 2 73, .tmp 3, .tmp 4]) rfl [0, 2, 3, 4, 5, 6, 7, 8, 9, 10, 11, 12, 20, 35, 48, 49, 54, 58, 76, 81, 94] [] true (by simp) ?_
  unfold glossaryref01_Take at hq
  simp only [initEnv, List.map_cons, List.map_nil, List.getD_cons_zero, List.getD_cons_succ, List.getD_nil, V.demote]
  rw [wp_seq]
  refine wp_region_i (by rfl) ?_
  simp only [go_sem, ↓evs_eq, Nat.reduceAdd, ↓reduceIte, Nat.reduceEqDiff, Nat.reduceBEq, Nat.reduceBNe, Nat.reduceLT, Int.reduceToNat, Int.reduceEq, Int.reduceLT, Int.reduceLE, reduceCtorEq, Nat.reduceMul, Nat.reduceLeDiff]
  rw [wp_seq]
  refine wp_region_i (by rfl) ?_
  simp only [go_sem, ↓evs_eq, Nat.reduceAdd, ↓reduceIte, Nat.reduceEqDiff, Nat.reduceBEq, Nat.reduceBNe, Nat.reduceLT, Int.reduceToNat, Int.reduceEq, Int.reduceLT, Int.reduceLE, reduceCtorEq, Nat.reduceMul, Nat.reduceLeDiff]
  obtain ⟨K81, hK82, hq⟩ := R.post_cut hq
  refine glossaryref01_TakeVarint_call (x0 := x0) hq (fun r4 hq => ?_) (fun v hv => ⟨(hX v hv).1, ?_⟩)
  · replace hq := hK82 _ hq
    simp only [go_sem, ↓evs_eq, Nat.reduceAdd, ↓reduceIte, Nat.reduceEqDiff, Nat.reduceBEq, Nat.reduceBNe, Nat.reduceLT, Int.reduceToNat, Int.reduceEq, Int.reduceLT, Int.reduceLE, reduceCtorEq, Nat.reduceMul, Nat.reduceLeDiff]
    rw [wp_seq]
    rw [wp_seq]
    refine wp_region_i (by rfl) ?_
    simp only [go_sem, ↓evs_eq, Nat.reduceAdd, ↓reduceIte, Nat.reduceEqDiff, Nat.reduceBEq, Nat.reduceBNe, Nat.reduceLT, Int.reduceToNat, Int.reduceEq, Int.reduceLT, Int.reduceLE, reduceCtorEq, Nat.reduceMul, Nat.reduceLeDiff]
    rw [wp_cond]
    simp only [go_sem, ↓evs_eq, Nat.reduceAdd, ↓reduceIte, Nat.reduceEqDiff, Nat.reduceBEq, Nat.reduceBNe, Nat.reduceLT, Int.reduceToNat, Int.reduceEq, Int.reduceLT, Int.reduceLE, reduceCtorEq, Nat.reduceMul, Nat.reduceLeDiff]
    by_cases hc6 : r4.2.2 = 0
    · replace hq := (R.post_if hq).1 hc6
      refine condK_f (congrArg (fun b => V.bool (!b)) (decide_eq_true hc6)) ?_
      try simp only [wp_skip, RC, roundK_x, roundK_g, roundK_r]
      refine Wk.same ?_
      try simp only [RC, roundK_x, roundK_g, roundK_r]
      rw [wp_seq]
      obtain ⟨K20, hK21, hq⟩ := R.post_cut hq
      refine seq_gen (acall_mono hp) (σ := Bool) (fun s => [(0, .sl 1 (List.map byteV x0)), (2, .ref h.length 0), (3, .int .i64 0), (4, .int .i64 0), (5, .int .u64 r4.1), (6, .int .i64 r4.2.1), (7, .int .i64 r4.2.2), (8, .top), (9, .top), (10, .top), (11, .top), (12, .top), (20, .bool (!(decide (r4.2.2 = 0)))), (35, .bool s), (48, .top), (49, .top), (54, .top), (58, .top), (76, .top), (81, .top), (94, .top)]) (fun s => h ++ [.cells 73 [.int .i64 0, .int .i64 0, .int .u64 0, .nils 5 1]]) (fun s => K20 s) (fun x35m19 hq => ?_) (fun N hN22 => ?_)
      · replace hq := hK21 _ hq
        try dsimp only at hq ⊢
        rw [wp_cond]
        simp only [go_sem, ↓evs_eq, Nat.reduceAdd, ↓reduceIte, Nat.reduceEqDiff, Nat.reduceBEq, Nat.reduceBNe, Nat.reduceLT, Int.reduceToNat, Int.reduceEq, Int.reduceLT, Int.reduceLE, reduceCtorEq, Nat.reduceMul, Nat.reduceLeDiff]
        by_cases hc28 : x35m19 = true
        · replace hq := (R.post_if hq).1 hc28
          refine condK_t (congrArg V.bool (hc28)) ?_
          rw [wp_seq]
          refine wp_region_i (by rfl) ?_
          simp only [go_sem, ↓evs_eq, Nat.reduceAdd, ↓reduceIte, Nat.reduceEqDiff, Nat.reduceBEq, Nat.reduceBNe, Nat.reduceLT, Int.reduceToNat, Int.reduceEq, Int.reduceLT, Int.reduceLE, reduceCtorEq, Nat.reduceMul, Nat.reduceLeDiff]
          rw [wp_ret]
          simp only [retQ, results, resultAll, resultOne, Nat.zero_add, scopeQ, go_sem, ↓evs_eq, Nat.reduceAdd, ↓reduceIte, Nat.reduceEqDiff, Nat.reduceBEq, Nat.reduceBNe, Nat.reduceLT, Int.reduceToNat, Int.reduceEq, Int.reduceLT, Int.reduceLE, reduceCtorEq, Nat.reduceMul, Nat.reduceLeDiff]
          refine ⟨_, (.tup _ _ (LLe.cons (.agg _ _ (LLe.cons (.refl _) (LLe.cons (.refl _) (LLe.cons (.refl _) (LLe.cons (.nsl _ _) LLe.nil)))).1 (LLe.cons (.refl _) (LLe.cons (.refl _) (LLe.cons (.refl _) (LLe.cons (.nsl _ _) LLe.nil)))).2) (LLe.cons (.refl _) (LLe.cons (.refl _) LLe.nil))).1 (LLe.cons (.agg _ _ (LLe.cons (.refl _) (LLe.cons (.refl _) (LLe.cons (.refl _) (LLe.cons (.nsl _ _) LLe.nil)))).1 (LLe.cons (.refl _) (LLe.cons (.refl _) (LLe.cons (.refl _) (LLe.cons (.nsl _ _) LLe.nil)))).2) (LLe.cons (.refl _) (LLe.cons (.refl _) LLe.nil))).2), ?_⟩
          refine leave_ok rfl (.tup _ (cl_cons (.agg _ (cl_cons (.int _ _) (cl_cons (.int _ _) (cl_cons (.int _ _) (cl_cons (.sl _ _ cl_nil) cl_nil))))) (cl_cons (.int _ _) (cl_cons (.int _ _) cl_nil)))) ?_
          first | exact hK _ hq | (have hz_ := hK _ hq; simp only [List.map_cons, List.map_nil, go_sem, ↓evs_eq, Nat.reduceAdd, ↓reduceIte, Nat.reduceEqDiff, Nat.reduceBEq, Nat.reduceBNe, Nat.reduceLT, Int.reduceToNat, Int.reduceEq, Int.reduceLT, Int.reduceLE, reduceCtorEq, Nat.reduceMul, Nat.reduceLeDiff] at hz_ ⊢; exact hz_)
        · replace hq := (R.post_if hq).2 hc28
          replace hc28 := eq_false_of_ne_true hc28
          refine condK_f (congrArg V.bool (hc28)) ?_
          try simp only [wp_skip, RC, roundK_x, roundK_g, roundK_r]
          refine Wk.same ?_
          try simp only [RC, roundK_x, roundK_g, roundK_r]
          rw [wp_seq]
          refine wp_region_i (by rfl) ?_
          simp only [go_sem, ↓evs_eq, Nat.reduceAdd, ↓reduceIte, Nat.reduceEqDiff, Nat.reduceBEq, Nat.reduceBNe, Nat.reduceLT, Int.reduceToNat, Int.reduceEq, Int.reduceLT, Int.reduceLE, reduceCtorEq, Nat.reduceMul, Nat.reduceLeDiff]
          rw [wp_seq]
          refine wp_region_i (by rfl) ?_
          obtain ⟨g30, hq⟩ := R.guard hq
          simp only [go_sem, ↓evs_eq, Nat.reduceAdd, ↓reduceIte, Nat.reduceEqDiff, Nat.reduceBEq, Nat.reduceBNe, Nat.reduceLT, Int.reduceToNat, Int.reduceEq, Int.reduceLT, Int.reduceLE, reduceCtorEq, Nat.reduceMul, Nat.reduceLeDiff]
          repeat (with_reducible refine And.intro (by first | omega | assumption) ?_)
          rw [wp_seq]
          rw [wp_seq]
          refine wp_region_i (by rfl) ?_
          simp only [go_sem, ↓evs_eq, Nat.reduceAdd, ↓reduceIte, Nat.reduceEqDiff, Nat.reduceBEq, Nat.reduceBNe, Nat.reduceLT, Int.reduceToNat, Int.reduceEq, Int.reduceLT, Int.reduceLE, reduceCtorEq, Nat.reduceMul, Nat.reduceLeDiff]
          rw [wp_block]
          refine seq_gen (acall_mono hp) (σ := Bool) (fun s => [(0, .sl 1 (List.map byteV x0)), (2, .ref h.length 0), (3, .int .i64 0), (4, .int .i64 0), (5, .int .u64 r4.1), (6, .int .i64 r4.2.1), (7, .int .i64 r4.2.2), (8, .ref (h.length + 1) 0), (9, .sl 1 (List.map byteV (List.drop (Int.toNat r4.2.1) x0))), (10, .top), (11, .top), (12, .top), (20, .bool (!(decide (r4.2.2 = 0)))), (35, .bool x35m19), (48, .int .i64 (IntKind.wrap .i64 (Int.tmod r4.1 8))), (49, .bool s), (54, .top), (58, .top), (76, .top), (81, .top), (94, .top)]) (fun s => h ++ [.cells 73 [.int .i64 0, .int .i64 0, .int .u64 0, .nils 5 1], .cells 73 [.int .i64 (IntKind.wrap .i64 (IntKind.wrap .u64 (Int.tdiv r4.1 8))), .int .i64 (IntKind.wrap .i64 (Int.tmod r4.1 8)), .int .u64 0, .nils 5 1]]) (fun s => (glossaryref01_Take_j1 r4 x0 s).post KK X) (fun x49_48 hq => ?_) (fun N hN79 => ?_)
          · try dsimp only at hq ⊢
            unfold glossaryref01_Take_j1 at hq
            rw [wp_cond]
            simp only [go_sem, ↓evs_eq, Nat.reduceAdd, ↓reduceIte, Nat.reduceEqDiff, Nat.reduceBEq, Nat.reduceBNe, Nat.reduceLT, Int.reduceToNat, Int.reduceEq, Int.reduceLT, Int.reduceLE, reduceCtorEq, Nat.reduceMul, Nat.reduceLeDiff]
            by_cases hc49 : x49_48 = true
            · replace hq := (R.post_if hq).1 hc49
              refine condK_t (congrArg V.bool (hc49)) ?_
              rw [wp_seq]
              refine wp_region_i (by rfl) ?_
              simp only [go_sem, ↓evs_eq, Nat.reduceAdd, ↓reduceIte, Nat.reduceEqDiff, Nat.reduceBEq, Nat.reduceBNe, Nat.reduceLT, Int.reduceToNat, Int.reduceEq, Int.reduceLT, Int.reduceLE, reduceCtorEq, Nat.reduceMul, Nat.reduceLeDiff]
              refine seq_gen (acall_mono hp) (σ := Int × V × V) (fun s => [(0, .sl 1 (List.map byteV x0)), (2, .ref h.length 0), (3, .int .i64 0), (4, .int .i64 0), (5, .int .u64 r4.1), (6, .int .i64 r4.2.1), (7, .int .i64 r4.2.2), (8, .ref (h.length + 1) 0), (9, .sl 1 (List.map byteV (List.drop (Int.toNat r4.2.1) x0))), (10, .int .i64 s.1), (11, .top), (12, .top), (20, .bool (!(decide (r4.2.2 = 0)))), (35, .bool x35m19), (48, .int .i64 (IntKind.wrap .i64 (Int.tmod r4.1 8))), (49, s.2.1), (54, s.2.2), (58, .top), (76, .top), (81, .top), (94, .top)]) (fun s => h ++ [.cells 73 [.int .i64 0, .int .i64 0, .int .u64 0, .nils 5 1], .cells 73 [.int .i64 (IntKind.wrap .i64 (IntKind.wrap .u64 (Int.tdiv r4.1 8))), .int .i64 (IntKind.wrap .i64 (Int.tmod r4.1 8)), .int .u64 0, .nils 5 1]]) (fun s => (glossaryref01_Take_j0 r4 x0 s.1).post KK X) (fun s hq => ?_) (fun N hN61 => ?_)
              · obtain ⟨x10_50, y49_50, y54_50⟩ := s
                try dsimp only at hq ⊢
                unfold glossaryref01_Take_j0 at hq
                rw [wp_seq]
                rw [wp_seq]
                refine wp_region_i (by rfl) ?_
                simp only [go_sem, ↓evs_eq, Nat.reduceAdd, ↓reduceIte, Nat.reduceEqDiff, Nat.reduceBEq, Nat.reduceBNe, Nat.reduceLT, Int.reduceToNat, Int.reduceEq, Int.reduceLT, Int.reduceLE, reduceCtorEq, Nat.reduceMul, Nat.reduceLeDiff]
                rw [wp_cond]
                simp only [go_sem, ↓evs_eq, Nat.reduceAdd, ↓reduceIte, Nat.reduceEqDiff, Nat.reduceBEq, Nat.reduceBNe, Nat.reduceLT, Int.reduceToNat, Int.reduceEq, Int.reduceLT, Int.reduceLE, reduceCtorEq, Nat.reduceMul, Nat.reduceLeDiff]
                by_cases hc52 : (List.length (List.drop (Int.toNat r4.2.1) x0) : Int) < x10_50
                · replace hq := (R.post_if hq).1 hc52
                  refine condK_t (congrArg V.bool (decide_eq_true hc52)) ?_
                  rw [wp_seq]
                  refine wp_region_i (by rfl) ?_
                  simp only [go_sem, ↓evs_eq, Nat.reduceAdd, ↓reduceIte, Nat.reduceEqDiff, Nat.reduceBEq, Nat.reduceBNe, Nat.reduceLT, Int.reduceToNat, Int.reduceEq, Int.reduceLT, Int.reduceLE, reduceCtorEq, Nat.reduceMul, Nat.reduceLeDiff]
                  rw [wp_ret]
                  simp only [retQ, results, resultAll, resultOne, Nat.zero_add, scopeQ, go_sem, ↓evs_eq, Nat.reduceAdd, ↓reduceIte, Nat.reduceEqDiff, Nat.reduceBEq, Nat.reduceBNe, Nat.reduceLT, Int.reduceToNat, Int.reduceEq, Int.reduceLT, Int.reduceLE, reduceCtorEq, Nat.reduceMul, Nat.reduceLeDiff]
                  refine ⟨_, (.tup _ _ (LLe.cons (.agg _ _ (LLe.cons (.refl _) (LLe.cons (.refl _) (LLe.cons (.refl _) (LLe.cons (.nsl _ _) LLe.nil)))).1 (LLe.cons (.refl _) (LLe.cons (.refl _) (LLe.cons (.refl _) (LLe.cons (.nsl _ _) LLe.nil)))).2) (LLe.cons (.refl _) (LLe.cons (.refl _) LLe.nil))).1 (LLe.cons (.agg _ _ (LLe.cons (.refl _) (LLe.cons (.refl _) (LLe.cons (.refl _) (LLe.cons (.nsl _ _) LLe.nil)))).1 (LLe.cons (.refl _) (LLe.cons (.refl _) (LLe.cons (.refl _) (LLe.cons (.nsl _ _) LLe.nil)))).2) (LLe.cons (.refl _) (LLe.cons (.refl _) LLe.nil))).2), ?_⟩
                  refine leave_ok rfl (.tup _ (cl_cons (.agg _ (cl_cons (.int _ _) (cl_cons (.int _ _) (cl_cons (.int _ _) (cl_cons (.sl _ _ cl_nil) cl_nil))))) (cl_cons (.int _ _) (cl_cons (.int _ _) cl_nil)))) ?_
                  first | exact hK _ hq | (have hz_ := hK _ hq; simp only [List.map_cons, List.map_nil, go_sem, ↓evs_eq, Nat.reduceAdd, ↓reduceIte, Nat.reduceEqDiff, Nat.reduceBEq, Nat.reduceBNe, Nat.reduceLT, Int.reduceToNat, Int.reduceEq, Int.reduceLT, Int.reduceLE, reduceCtorEq, Nat.reduceMul, Nat.reduceLeDiff] at hz_ ⊢; exact hz_)
                · replace hq := (R.post_if hq).2 hc52
                  refine condK_f (congrArg V.bool (decide_eq_false hc52)) ?_
                  try simp only [wp_skip, RC, roundK_x, roundK_g, roundK_r]
                  refine Wk.same ?_
                  try simp only [RC, roundK_x, roundK_g, roundK_r]
                  rw [wp_seq]
                  refine wp_region_i (by rfl) ?_
                  obtain ⟨g57, hq⟩ := R.guard hq
                  simp only [go_sem, ↓evs_eq, Nat.reduceAdd, ↓reduceIte, Nat.reduceEqDiff, Nat.reduceBEq, Nat.reduceBNe, Nat.reduceLT, Int.reduceToNat, Int.reduceEq, Int.reduceLT, Int.reduceLE, reduceCtorEq, Nat.reduceMul, Nat.reduceLeDiff]
                  repeat (with_reducible refine And.intro (by first | omega | assumption) ?_)
                  obtain ⟨K59, hK60, hq⟩ := R.post_cut hq
                  refine glossaryref01_Unfixed_call (x0 := (List.take (Int.toNat x10_50) (List.drop (Int.toNat r4.2.1) x0))) hq (fun r58 hq => ?_) (fun v hv => ⟨(hX v hv).1, ?_⟩)
                  · replace hq := hK60 _ hq
                    simp only [go_sem, ↓evs_eq, Nat.reduceAdd, ↓reduceIte, Nat.reduceEqDiff, Nat.reduceBEq, Nat.reduceBNe, Nat.reduceLT, Int.reduceToNat, Int.reduceEq, Int.reduceLT, Int.reduceLE, reduceCtorEq, Nat.reduceMul, Nat.reduceLeDiff]
                    rw [wp_seq]
                    refine wp_region_i (by rfl) ?_
                    simp only [go_sem, ↓evs_eq, Nat.reduceAdd, ↓reduceIte, Nat.reduceEqDiff, Nat.reduceBEq, Nat.reduceBNe, Nat.reduceLT, Int.reduceToNat, Int.reduceEq, Int.reduceLT, Int.reduceLE, reduceCtorEq, Nat.reduceMul, Nat.reduceLeDiff]
                    rw [wp_ret]
                    simp only [retQ, results, resultAll, resultOne, Nat.zero_add, scopeQ, go_sem, ↓evs_eq, Nat.reduceAdd, ↓reduceIte, Nat.reduceEqDiff, Nat.reduceBEq, Nat.reduceBNe, Nat.reduceLT, Int.reduceToNat, Int.reduceEq, Int.reduceLT, Int.reduceLE, reduceCtorEq, Nat.reduceMul, Nat.reduceLeDiff]
                    refine ⟨_, (.tup _ _ (LLe.cons (.agg _ _ (LLe.cons (.refl _) (LLe.cons (.refl _) (LLe.cons (.refl _) (LLe.cons (.nsl _ _) LLe.nil)))).1 (LLe.cons (.refl _) (LLe.cons (.refl _) (LLe.cons (.refl _) (LLe.cons (.nsl _ _) LLe.nil)))).2) (LLe.cons (.refl _) (LLe.cons (.refl _) LLe.nil))).1 (LLe.cons (.agg _ _ (LLe.cons (.refl _) (LLe.cons (.refl _) (LLe.cons (.refl _) (LLe.cons (.nsl _ _) LLe.nil)))).1 (LLe.cons (.refl _) (LLe.cons (.refl _) (LLe.cons (.refl _) (LLe.cons (.nsl _ _) LLe.nil)))).2) (LLe.cons (.refl _) (LLe.cons (.refl _) LLe.nil))).2), ?_⟩
                    refine leave_ok rfl (.tup _ (cl_cons (.agg _ (cl_cons (.int _ _) (cl_cons (.int _ _) (cl_cons (.int _ _) (cl_cons (.sl _ _ cl_nil) cl_nil))))) (cl_cons (.int _ _) (cl_cons (.int _ _) cl_nil)))) ?_
                    first | exact hK _ hq | (have hz_ := hK _ hq; simp only [List.map_cons, List.map_nil, go_sem, ↓evs_eq, Nat.reduceAdd, ↓reduceIte, Nat.reduceEqDiff, Nat.reduceBEq, Nat.reduceBNe, Nat.reduceLT, Int.reduceToNat, Int.reduceEq, Int.reduceLT, Int.reduceLE, reduceCtorEq, Nat.reduceMul, Nat.reduceLeDiff] at hz_ ⊢; exact hz_)
                  · simp only [RC, roundK_x, roundK_g, roundK_r, scopeQ, retQ, ↓reduceIte, Bool.false_eq_true]
                    exact leaveP_ok ((hX _ hv).1.mono (Nat.zero_le _)) (hX _ hv).2
              · rw [wp_seq]
                refine wp_region_i (by rfl) ?_
                simp only [go_sem, ↓evs_eq, Nat.reduceAdd, ↓reduceIte, Nat.reduceEqDiff, Nat.reduceBEq, Nat.reduceBNe, Nat.reduceLT, Int.reduceToNat, Int.reduceEq, Int.reduceLT, Int.reduceLE, reduceCtorEq, Nat.reduceMul, Nat.reduceLeDiff]
                rw [wp_cond]
                simp only [go_sem, ↓evs_eq, Nat.reduceAdd, ↓reduceIte, Nat.reduceEqDiff, Nat.reduceBEq, Nat.reduceBNe, Nat.reduceLT, Int.reduceToNat, Int.reduceEq, Int.reduceLT, Int.reduceLE, reduceCtorEq, Nat.reduceMul, Nat.reduceLeDiff]
                by_cases hc62 : (IntKind.wrap .i64 (Int.tmod r4.1 8)) = 5
                · replace hq := (R.post_if hq).1 hc62
                  refine condK_t (congrArg V.bool (decide_eq_true hc62)) ?_
                  refine wp_region_i (by rfl) ?_
                  simp only [go_sem, ↓evs_eq, Nat.reduceAdd, ↓reduceIte, Nat.reduceEqDiff, Nat.reduceBEq, Nat.reduceBNe, Nat.reduceLT, Int.reduceToNat, Int.reduceEq, Int.reduceLT, Int.reduceLE, reduceCtorEq, Nat.reduceMul, Nat.reduceLeDiff]
                  refine Wk.le (EnvLe.cons (.refl _) (EnvLe.cons (.refl _) (EnvLe.cons (.refl _) (EnvLe.cons (.refl _) (EnvLe.cons (.refl _) (EnvLe.cons (.refl _) (EnvLe.cons (.refl _) (EnvLe.cons (.refl _) (EnvLe.cons (.refl _) (EnvLe.cons (.refl _) (EnvLe.cons (.refl _) (EnvLe.cons (.refl _) (EnvLe.cons (.refl _) (EnvLe.cons (.refl _) (EnvLe.cons (.refl _) (EnvLe.cons (.top _) (EnvLe.cons (.top _) (EnvLe.cons (.refl _) (EnvLe.cons (.refl _) (EnvLe.cons (.refl _) (EnvLe.cons (.refl _) EnvLe.nil))))))))))))))))))))) ?_
                  try simp only [RC, roundK_x, roundK_g, roundK_r]
                  exact hN61 (4, _, _) hq
                · replace hq := (R.post_if hq).2 hc62
                  refine condK_f (congrArg V.bool (decide_eq_false hc62)) ?_
                  try simp only [wp_skip, RC, roundK_x, roundK_g, roundK_r]
                  refine Wk.le (EnvLe.cons (.refl _) (EnvLe.cons (.refl _) (EnvLe.cons (.refl _) (EnvLe.cons (.refl _) (EnvLe.cons (.refl _) (EnvLe.cons (.refl _) (EnvLe.cons (.refl _) (EnvLe.cons (.refl _) (EnvLe.cons (.refl _) (EnvLe.cons (.refl _) (EnvLe.cons (.refl _) (EnvLe.cons (.refl _) (EnvLe.cons (.refl _) (EnvLe.cons (.refl _) (EnvLe.cons (.refl _) (EnvLe.cons (.top _) (EnvLe.cons (.top _) (EnvLe.cons (.refl _) (EnvLe.cons (.refl _) (EnvLe.cons (.refl _) (EnvLe.cons (.refl _) EnvLe.nil))))))))))))))))))))) ?_
                  try simp only [RC, roundK_x, roundK_g, roundK_r]
                  exact hN61 (8, _, _) hq
            · replace hq := (R.post_if hq).2 hc49
              replace hc49 := eq_false_of_ne_true hc49
              refine condK_f (congrArg V.bool (hc49)) ?_
              try simp only [wp_skip, RC, roundK_x, roundK_g, roundK_r]
              refine Wk.same ?_
              try simp only [RC, roundK_x, roundK_g, roundK_r]
              refine Wk.same ?_
              try simp only [RC, roundK_x, roundK_g, roundK_r]
              rw [wp_seq]
              refine wp_region_i (by rfl) ?_
              simp only [go_sem, ↓evs_eq, Nat.reduceAdd, ↓reduceIte, Nat.reduceEqDiff, Nat.reduceBEq, Nat.reduceBNe, Nat.reduceLT, Int.reduceToNat, Int.reduceEq, Int.reduceLT, Int.reduceLE, reduceCtorEq, Nat.reduceMul, Nat.reduceLeDiff]
              obtain ⟨K77, hK78, hq⟩ := R.post_cut hq
              refine glossaryref01_TakeVarint_call (x0 := (List.drop (Int.toNat r4.2.1) x0)) hq (fun r66 hq => ?_) (fun v hv => ⟨(hX v hv).1, ?_⟩)
              · replace hq := hK78 _ hq
                simp only [go_sem, ↓evs_eq, Nat.reduceAdd, ↓reduceIte, Nat.reduceEqDiff, Nat.reduceBEq, Nat.reduceBNe, Nat.reduceLT, Int.reduceToNat, Int.reduceEq, Int.reduceLT, Int.reduceLE, reduceCtorEq, Nat.reduceMul, Nat.reduceLeDiff]
                rw [wp_seq]
                rw [wp_seq]
                refine wp_region_i (by rfl) ?_
                simp only [go_sem, ↓evs_eq, Nat.reduceAdd, ↓reduceIte, Nat.reduceEqDiff, Nat.reduceBEq, Nat.reduceBNe, Nat.reduceLT, Int.reduceToNat, Int.reduceEq, Int.reduceLT, Int.reduceLE, reduceCtorEq, Nat.reduceMul, Nat.reduceLeDiff]
                rw [wp_cond]
                simp only [go_sem, ↓evs_eq, Nat.reduceAdd, ↓reduceIte, Nat.reduceEqDiff, Nat.reduceBEq, Nat.reduceBNe, Nat.reduceLT, Int.reduceToNat, Int.reduceEq, Int.reduceLT, Int.reduceLE, reduceCtorEq, Nat.reduceMul, Nat.reduceLeDiff]
                by_cases hc68 : r66.2.2 = 0
                · replace hq := (R.post_if hq).1 hc68
                  refine condK_f (congrArg (fun b => V.bool (!b)) (decide_eq_true hc68)) ?_
                  try simp only [wp_skip, RC, roundK_x, roundK_g, roundK_r]
                  refine Wk.same ?_
                  try simp only [RC, roundK_x, roundK_g, roundK_r]
                  rw [wp_seq]
                  rw [wp_seq]
                  refine wp_region_i (by rfl) ?_
                  simp only [go_sem, ↓evs_eq, Nat.reduceAdd, ↓reduceIte, Nat.reduceEqDiff, Nat.reduceBEq, Nat.reduceBNe, Nat.reduceLT, Int.reduceToNat, Int.reduceEq, Int.reduceLT, Int.reduceLE, reduceCtorEq, Nat.reduceMul, Nat.reduceLeDiff]
                  rw [wp_cond]
                  simp only [go_sem, ↓evs_eq, Nat.reduceAdd, ↓reduceIte, Nat.reduceEqDiff, Nat.reduceBEq, Nat.reduceBNe, Nat.reduceLT, Int.reduceToNat, Int.reduceEq, Int.reduceLT, Int.reduceLE, reduceCtorEq, Nat.reduceMul, Nat.reduceLeDiff]
                  by_cases hc70 : (IntKind.wrap .i64 (Int.tmod r4.1 8)) = 0
                  · replace hq := (R.post_if hq).1 hc70
                    refine condK_t (congrArg V.bool (decide_eq_true hc70)) ?_
                    rw [wp_seq]
                    refine wp_region_i (by rfl) ?_
                    simp only [go_sem, ↓evs_eq, Nat.reduceAdd, ↓reduceIte, Nat.reduceEqDiff, Nat.reduceBEq, Nat.reduceBNe, Nat.reduceLT, Int.reduceToNat, Int.reduceEq, Int.reduceLT, Int.reduceLE, reduceCtorEq, Nat.reduceMul, Nat.reduceLeDiff]
                    rw [wp_seq]
                    refine wp_region_i (by rfl) ?_
                    simp only [go_sem, ↓evs_eq, Nat.reduceAdd, ↓reduceIte, Nat.reduceEqDiff, Nat.reduceBEq, Nat.reduceBNe, Nat.reduceLT, Int.reduceToNat, Int.reduceEq, Int.reduceLT, Int.reduceLE, reduceCtorEq, Nat.reduceMul, Nat.reduceLeDiff]
                    rw [wp_ret]
                    simp only [retQ, results, resultAll, resultOne, Nat.zero_add, scopeQ, go_sem, ↓evs_eq, Nat.reduceAdd, ↓reduceIte, Nat.reduceEqDiff, Nat.reduceBEq, Nat.reduceBNe, Nat.reduceLT, Int.reduceToNat, Int.reduceEq, Int.reduceLT, Int.reduceLE, reduceCtorEq, Nat.reduceMul, Nat.reduceLeDiff]
                    refine ⟨_, (.tup _ _ (LLe.cons (.agg _ _ (LLe.cons (.refl _) (LLe.cons (.refl _) (LLe.cons (.refl _) (LLe.cons (.nsl _ _) LLe.nil)))).1 (LLe.cons (.refl _) (LLe.cons (.refl _) (LLe.cons (.refl _) (LLe.cons (.nsl _ _) LLe.nil)))).2) (LLe.cons (.refl _) (LLe.cons (.refl _) LLe.nil))).1 (LLe.cons (.agg _ _ (LLe.cons (.refl _) (LLe.cons (.refl _) (LLe.cons (.refl _) (LLe.cons (.nsl _ _) LLe.nil)))).1 (LLe.cons (.refl _) (LLe.cons (.refl _) (LLe.cons (.refl _) (LLe.cons (.nsl _ _) LLe.nil)))).2) (LLe.cons (.refl _) (LLe.cons (.refl _) LLe.nil))).2), ?_⟩
                    refine leave_ok rfl (.tup _ (cl_cons (.agg _ (cl_cons (.int _ _) (cl_cons (.int _ _) (cl_cons (.int _ _) (cl_cons (.sl _ _ cl_nil) cl_nil))))) (cl_cons (.int _ _) (cl_cons (.int _ _) cl_nil)))) ?_
                    first | exact hK _ hq | (have hz_ := hK _ hq; simp only [List.map_cons, List.map_nil, go_sem, ↓evs_eq, Nat.reduceAdd, ↓reduceIte, Nat.reduceEqDiff, Nat.reduceBEq, Nat.reduceBNe, Nat.reduceLT, Int.reduceToNat, Int.reduceEq, Int.reduceLT, Int.reduceLE, reduceCtorEq, Nat.reduceMul, Nat.reduceLeDiff] at hz_ ⊢; exact hz_)
                  · replace hq := (R.post_if hq).2 hc70
                    refine condK_f (congrArg V.bool (decide_eq_false hc70)) ?_
                    try simp only [wp_skip, RC, roundK_x, roundK_g, roundK_r]
                    refine Wk.same ?_
                    try simp only [RC, roundK_x, roundK_g, roundK_r]
                    rw [wp_seq]
                    rw [wp_seq]
                    refine wp_region_i (by rfl) ?_
                    simp only [go_sem, ↓evs_eq, Nat.reduceAdd, ↓reduceIte, Nat.reduceEqDiff, Nat.reduceBEq, Nat.reduceBNe, Nat.reduceLT, Int.reduceToNat, Int.reduceEq, Int.reduceLT, Int.reduceLE, reduceCtorEq, Nat.reduceMul, Nat.reduceLeDiff]
                    rw [wp_cond]
                    simp only [go_sem, ↓evs_eq, Nat.reduceAdd, ↓reduceIte, Nat.reduceEqDiff, Nat.reduceBEq, Nat.reduceBNe, Nat.reduceLT, Int.reduceToNat, Int.reduceEq, Int.reduceLT, Int.reduceLE, reduceCtorEq, Nat.reduceMul, Nat.reduceLeDiff]
                    by_cases hc72 : (IntKind.wrap .u64 (IntKind.wrap .i64 ((List.length (List.drop (Int.toNat r4.2.1) x0) : Int) - r66.2.1))) < r66.1
                    · replace hq := (R.post_if hq).1 hc72
                      refine condK_t (congrArg V.bool (decide_eq_true hc72)) ?_
                      rw [wp_seq]
                      refine wp_region_i (by rfl) ?_
                      simp only [go_sem, ↓evs_eq, Nat.reduceAdd, ↓reduceIte, Nat.reduceEqDiff, Nat.reduceBEq, Nat.reduceBNe, Nat.reduceLT, Int.reduceToNat, Int.reduceEq, Int.reduceLT, Int.reduceLE, reduceCtorEq, Nat.reduceMul, Nat.reduceLeDiff]
                      rw [wp_ret]
                      simp only [retQ, results, resultAll, resultOne, Nat.zero_add, scopeQ, go_sem, ↓evs_eq, Nat.reduceAdd, ↓reduceIte, Nat.reduceEqDiff, Nat.reduceBEq, Nat.reduceBNe, Nat.reduceLT, Int.reduceToNat, Int.reduceEq, Int.reduceLT, Int.reduceLE, reduceCtorEq, Nat.reduceMul, Nat.reduceLeDiff]
                      refine ⟨_, (.tup _ _ (LLe.cons (.agg _ _ (LLe.cons (.refl _) (LLe.cons (.refl _) (LLe.cons (.refl _) (LLe.cons (.nsl _ _) LLe.nil)))).1 (LLe.cons (.refl _) (LLe.cons (.refl _) (LLe.cons (.refl _) (LLe.cons (.nsl _ _) LLe.nil)))).2) (LLe.cons (.refl _) (LLe.cons (.refl _) LLe.nil))).1 (LLe.cons (.agg _ _ (LLe.cons (.refl _) (LLe.cons (.refl _) (LLe.cons (.refl _) (LLe.cons (.nsl _ _) LLe.nil)))).1 (LLe.cons (.refl _) (LLe.cons (.refl _) (LLe.cons (.refl _) (LLe.cons (.nsl _ _) LLe.nil)))).2) (LLe.cons (.refl _) (LLe.cons (.refl _) LLe.nil))).2), ?_⟩
                      refine leave_ok rfl (.tup _ (cl_cons (.agg _ (cl_cons (.int _ _) (cl_cons (.int _ _) (cl_cons (.int _ _) (cl_cons (.sl _ _ cl_nil) cl_nil))))) (cl_cons (.int _ _) (cl_cons (.int _ _) cl_nil)))) ?_
                      first | exact hK _ hq | (have hz_ := hK _ hq; simp only [List.map_cons, List.map_nil, go_sem, ↓evs_eq, Nat.reduceAdd, ↓reduceIte, Nat.reduceEqDiff, Nat.reduceBEq, Nat.reduceBNe, Nat.reduceLT, Int.reduceToNat, Int.reduceEq, Int.reduceLT, Int.reduceLE, reduceCtorEq, Nat.reduceMul, Nat.reduceLeDiff] at hz_ ⊢; exact hz_)
                    · replace hq := (R.post_if hq).2 hc72
                      refine condK_f (congrArg V.bool (decide_eq_false hc72)) ?_
                      try simp only [wp_skip, RC, roundK_x, roundK_g, roundK_r]
                      refine Wk.same ?_
                      try simp only [RC, roundK_x, roundK_g, roundK_r]
                      rw [wp_seq]
                      refine wp_region_i (by rfl) ?_
                      obtain ⟨g75, hq⟩ := R.guard hq
                      obtain ⟨g76, hq⟩ := R.guard hq
                      simp only [go_sem, ↓evs_eq, Nat.reduceAdd, ↓reduceIte, Nat.reduceEqDiff, Nat.reduceBEq, Nat.reduceBNe, Nat.reduceLT, Int.reduceToNat, Int.reduceEq, Int.reduceLT, Int.reduceLE, reduceCtorEq, Nat.reduceMul, Nat.reduceLeDiff]
                      repeat (with_reducible refine And.intro (by first | omega | assumption) ?_)
                      rw [wp_seq]
                      refine wp_region_i (by rfl) ?_
                      simp only [go_sem, ↓evs_eq, Nat.reduceAdd, ↓reduceIte, Nat.reduceEqDiff, Nat.reduceBEq, Nat.reduceBNe, Nat.reduceLT, Int.reduceToNat, Int.reduceEq, Int.reduceLT, Int.reduceLE, reduceCtorEq, Nat.reduceMul, Nat.reduceLeDiff]
                      rw [wp_ret]
                      simp only [retQ, results, resultAll, resultOne, Nat.zero_add, scopeQ, go_sem, ↓evs_eq, Nat.reduceAdd, ↓reduceIte, Nat.reduceEqDiff, Nat.reduceBEq, Nat.reduceBNe, Nat.reduceLT, Int.reduceToNat, Int.reduceEq, Int.reduceLT, Int.reduceLE, reduceCtorEq, Nat.reduceMul, Nat.reduceLeDiff]
                      refine ⟨_, (.refl _), ?_⟩
                      refine leave_ok rfl (.tup _ (cl_cons (.agg _ (cl_cons (.int _ _) (cl_cons (.int _ _) (cl_cons (.int _ _) (cl_cons (.sl _ _ (cl_map (fun x => cl_byte x))) cl_nil))))) (cl_cons (.int _ _) (cl_cons (.int _ _) cl_nil)))) ?_
                      first | exact hK _ hq | (have hz_ := hK _ hq; simp only [List.map_cons, List.map_nil, go_sem, ↓evs_eq, Nat.reduceAdd, ↓reduceIte, Nat.reduceEqDiff, Nat.reduceBEq, Nat.reduceBNe, Nat.reduceLT, Int.reduceToNat, Int.reduceEq, Int.reduceLT, Int.reduceLE, reduceCtorEq, Nat.reduceMul, Nat.reduceLeDiff] at hz_ ⊢; exact hz_)
                · replace hq := (R.post_if hq).2 hc68
                  refine condK_t (congrArg (fun b => V.bool (!b)) (decide_eq_false hc68)) ?_
                  rw [wp_seq]
                  refine wp_region_i (by rfl) ?_
                  simp only [go_sem, ↓evs_eq, Nat.reduceAdd, ↓reduceIte, Nat.reduceEqDiff, Nat.reduceBEq, Nat.reduceBNe, Nat.reduceLT, Int.reduceToNat, Int.reduceEq, Int.reduceLT, Int.reduceLE, reduceCtorEq, Nat.reduceMul, Nat.reduceLeDiff]
                  rw [wp_ret]
                  simp only [retQ, results, resultAll, resultOne, Nat.zero_add, scopeQ, go_sem, ↓evs_eq, Nat.reduceAdd, ↓reduceIte, Nat.reduceEqDiff, Nat.reduceBEq, Nat.reduceBNe, Nat.reduceLT, Int.reduceToNat, Int.reduceEq, Int.reduceLT, Int.reduceLE, reduceCtorEq, Nat.reduceMul, Nat.reduceLeDiff]
                  refine ⟨_, (.tup _ _ (LLe.cons (.agg _ _ (LLe.cons (.refl _) (LLe.cons (.refl _) (LLe.cons (.refl _) (LLe.cons (.nsl _ _) LLe.nil)))).1 (LLe.cons (.refl _) (LLe.cons (.refl _) (LLe.cons (.refl _) (LLe.cons (.nsl _ _) LLe.nil)))).2) (LLe.cons (.refl _) (LLe.cons (.refl _) LLe.nil))).1 (LLe.cons (.agg _ _ (LLe.cons (.refl _) (LLe.cons (.refl _) (LLe.cons (.refl _) (LLe.cons (.nsl _ _) LLe.nil)))).1 (LLe.cons (.refl _) (LLe.cons (.refl _) (LLe.cons (.refl _) (LLe.cons (.nsl _ _) LLe.nil)))).2) (LLe.cons (.refl _) (LLe.cons (.refl _) LLe.nil))).2), ?_⟩
                  refine leave_ok rfl (.tup _ (cl_cons (.agg _ (cl_cons (.int _ _) (cl_cons (.int _ _) (cl_cons (.int _ _) (cl_cons (.sl _ _ cl_nil) cl_nil))))) (cl_cons (.int _ _) (cl_cons (.int _ _) cl_nil)))) ?_
                  first | exact hK _ hq | (have hz_ := hK _ hq; simp only [List.map_cons, List.map_nil, go_sem, ↓evs_eq, Nat.reduceAdd, ↓reduceIte, Nat.reduceEqDiff, Nat.reduceBEq, Nat.reduceBNe, Nat.reduceLT, Int.reduceToNat, Int.reduceEq, Int.reduceLT, Int.reduceLE, reduceCtorEq, Nat.reduceMul, Nat.reduceLeDiff] at hz_ ⊢; exact hz_)
              · simp only [RC, roundK_x, roundK_g, roundK_r, scopeQ, retQ, ↓reduceIte, Bool.false_eq_true]
                exact leaveP_ok ((hX _ hv).1.mono (Nat.zero_le _)) (hX _ hv).2
          · rw [wp_seq]
            refine wp_region_i (by rfl) ?_
            simp only [go_sem, ↓evs_eq, Nat.reduceAdd, ↓reduceIte, Nat.reduceEqDiff, Nat.reduceBEq, Nat.reduceBNe, Nat.reduceLT, Int.reduceToNat, Int.reduceEq, Int.reduceLT, Int.reduceLE, reduceCtorEq, Nat.reduceMul, Nat.reduceLeDiff]
            rw [wp_cond]
            simp only [go_sem, ↓evs_eq, Nat.reduceAdd, ↓reduceIte, Nat.reduceEqDiff, Nat.reduceBEq, Nat.reduceBNe, Nat.reduceLT, Int.reduceToNat, Int.reduceEq, Int.reduceLT, Int.reduceLE, reduceCtorEq, Nat.reduceMul, Nat.reduceLeDiff]
            by_cases hc80 : (IntKind.wrap .i64 (Int.tmod r4.1 8)) = 1
            · replace hq := (R.post_if hq).1 hc80
              refine condK_t (congrArg V.bool (decide_eq_true hc80)) ?_
              try simp only [wp_skip, RC, roundK_x, roundK_g, roundK_r]
              refine Wk.same ?_
              try simp only [RC, roundK_x, roundK_g, roundK_r]
              exact hN79 (decide ((IntKind.wrap .i64 (Int.tmod r4.1 8)) = 1)) hq
            · replace hq := (R.post_if hq).2 hc80
              refine condK_f (congrArg V.bool (decide_eq_false hc80)) ?_
              refine wp_region_i (by rfl) ?_
              simp only [go_sem, ↓evs_eq, Nat.reduceAdd, ↓reduceIte, Nat.reduceEqDiff, Nat.reduceBEq, Nat.reduceBNe, Nat.reduceLT, Int.reduceToNat, Int.reduceEq, Int.reduceLT, Int.reduceLE, reduceCtorEq, Nat.reduceMul, Nat.reduceLeDiff]
              refine Wk.same ?_
              try simp only [RC, roundK_x, roundK_g, roundK_r]
              exact hN79 (decide ((IntKind.wrap .i64 (Int.tmod r4.1 8)) = 5)) hq
      · refine wp_region_i (by rfl) ?_
        simp only [go_sem, ↓evs_eq, Nat.reduceAdd, ↓reduceIte, Nat.reduceEqDiff, Nat.reduceBEq, Nat.reduceBNe, Nat.reduceLT, Int.reduceToNat, Int.reduceEq, Int.reduceLT, Int.reduceLE, reduceCtorEq, Nat.reduceMul, Nat.reduceLeDiff]
        by_cases hc23 : (4294967296 : Int) ≤ r4.1
        · replace hq := (R.post_if hq).1 hc23
          simp only [decide_eq_true hc23, go_sem, ↓evs_eq, Nat.reduceAdd, ↓reduceIte, Nat.reduceEqDiff, Nat.reduceBEq, Nat.reduceBNe, Nat.reduceLT, Int.reduceToNat, Int.reduceEq, Int.reduceLT, Int.reduceLE, reduceCtorEq, Nat.reduceMul, Nat.reduceLeDiff]
          exact hN22 true hq
        · replace hq := (R.post_if hq).2 hc23
          simp only [decide_eq_false hc23, go_sem, ↓evs_eq, Nat.reduceAdd, ↓reduceIte, Nat.reduceEqDiff, Nat.reduceBEq, Nat.reduceBNe, Nat.reduceLT, Int.reduceToNat, Int.reduceEq, Int.reduceLT, Int.reduceLE, reduceCtorEq, Nat.reduceMul, Nat.reduceLeDiff]
          by_cases hc24 : r4.1 < 8
          · replace hq := (R.post_if hq).1 hc24
            simp only [decide_eq_true hc24, go_sem, ↓evs_eq, Nat.reduceAdd, ↓reduceIte, Nat.reduceEqDiff, Nat.reduceBEq, Nat.reduceBNe, Nat.reduceLT, Int.reduceToNat, Int.reduceEq, Int.reduceLT, Int.reduceLE, reduceCtorEq, Nat.reduceMul, Nat.reduceLeDiff]
            exact hN22 true hq
          · replace hq := (R.post_if hq).2 hc24
            simp only [decide_eq_false hc24, go_sem, ↓evs_eq, Nat.reduceAdd, ↓reduceIte, Nat.reduceEqDiff, Nat.reduceBEq, Nat.reduceBNe, Nat.reduceLT, Int.reduceToNat, Int.reduceEq, Int.reduceLT, Int.reduceLE, reduceCtorEq, Nat.reduceMul, Nat.reduceLeDiff]
            obtain ⟨K26, hK27, hq⟩ := R.post_cut hq
            refine glossaryref01_kind_call (x0 := (IntKind.wrap .i64 (Int.tmod r4.1 8))) hq (fun r25 hq => ?_) (fun v hv => ⟨(hX v hv).1, ?_⟩)
            · replace hq := hK27 _ hq
              simp only [go_sem, ↓evs_eq, Nat.reduceAdd, ↓reduceIte, Nat.reduceEqDiff, Nat.reduceBEq, Nat.reduceBNe, Nat.reduceLT, Int.reduceToNat, Int.reduceEq, Int.reduceLT, Int.reduceLE, reduceCtorEq, Nat.reduceMul, Nat.reduceLeDiff]
              exact hN22 (!r25) hq
            · simp only [RC, roundK_x, roundK_g, roundK_r, scopeQ, retQ, ↓reduceIte, Bool.false_eq_true]
              exact leaveP_ok ((hX _ hv).1.mono (Nat.zero_le _)) (hX _ hv).2
    · replace hq := (R.post_if hq).2 hc6
      refine condK_t (congrArg (fun b => V.bool (!b)) (decide_eq_false hc6)) ?_
      rw [wp_seq]
      refine wp_region_i (by rfl) ?_
      simp only [go_sem, ↓evs_eq, Nat.reduceAdd, ↓reduceIte, Nat.reduceEqDiff, Nat.reduceBEq, Nat.reduceBNe, Nat.reduceLT, Int.reduceToNat, Int.reduceEq, Int.reduceLT, Int.reduceLE, reduceCtorEq, Nat.reduceMul, Nat.reduceLeDiff]
      rw [wp_ret]
      simp only [retQ, results, resultAll, resultOne, Nat.zero_add, scopeQ, go_sem, ↓evs_eq, Nat.reduceAdd, ↓reduceIte, Nat.reduceEqDiff, Nat.reduceBEq, Nat.reduceBNe, Nat.reduceLT, Int.reduceToNat, Int.reduceEq, Int.reduceLT, Int.reduceLE, reduceCtorEq, Nat.reduceMul, Nat.reduceLeDiff]
      refine ⟨_, (.tup _ _ (LLe.cons (.agg _ _ (LLe.cons (.refl _) (LLe.cons (.refl _) (LLe.cons (.refl _) (LLe.cons (.nsl _ _) LLe.nil)))).1 (LLe.cons (.refl _) (LLe.cons (.refl _) (LLe.cons (.refl _) (LLe.cons (.nsl _ _) LLe.nil)))).2) (LLe.cons (.refl _) (LLe.cons (.refl _) LLe.nil))).1 (LLe.cons (.agg _ _ (LLe.cons (.refl _) (LLe.cons (.refl _) (LLe.cons (.refl _) (LLe.cons (.nsl _ _) LLe.nil)))).1 (LLe.cons (.refl _) (LLe.cons (.refl _) (LLe.cons (.refl _) (LLe.cons (.nsl _ _) LLe.nil)))).2) (LLe.cons (.refl _) (LLe.cons (.refl _) LLe.nil))).2), ?_⟩
      refine leave_ok rfl (.tup _ (cl_cons (.agg _ (cl_cons (.int _ _) (cl_cons (.int _ _) (cl_cons (.int _ _) (cl_cons (.sl _ _ cl_nil) cl_nil))))) (cl_cons (.int _ _) (cl_cons (.int _ _) cl_nil)))) ?_
      first | exact hK _ hq | (have hz_ := hK _ hq; simp only [List.map_cons, List.map_nil, go_sem, ↓evs_eq, Nat.reduceAdd, ↓reduceIte, Nat.reduceEqDiff, Nat.reduceBEq, Nat.reduceBNe, Nat.reduceLT, Int.reduceToNat, Int.reduceEq, Int.reduceLT, Int.reduceLE, reduceCtorEq, Nat.reduceMul, Nat.reduceLeDiff] at hz_ ⊢; exact hz_)
  · simp only [RC, roundK_x, roundK_g, roundK_r, scopeQ, retQ, ↓reduceIte, Bool.false_eq_true]
    exact leaveP_ok ((hX _ hv).1.mono (Nat.zero_le _)) (hX _ hv).2

def glossaryref01_Read_j0 (x5_35 : List S_api_Raw) : R ((List S_api_Raw) × Int × Int) :=
  R.ok (x5_35, 0, 0)
def glossaryref01_Read_l1 (x0 : List UInt8) : Nat → List S_api_Raw → Int → R (((List S_api_Raw)) ⊕ ((List S_api_Raw) × Int × Int))
  | 0, _, _ => R.stuck
  | k + 1, x5_50, x6_50 => if x6_50 < (List.length x0 : Int) then (if 0 ≤ x6_50 ∧ x6_50 ≤ (List.length x0 : Int) then ((glossaryref01_Take (List.drop (Int.toNat x6_50) x0)).bind fun r74 => if r74.2.2 = 0 then (if List.length x5_50 + List.length ([r74.1]) ≤ 1000000000 then (glossaryref01_Read_l1 x0 k (x5_50 ++ ([r74.1])) (IntKind.wrap .i64 (x6_50 + r74.2.1))) else R.stuck) else (R.ok (.inr ([], x6_50, r74.2.2)))) else R.stuck) else (R.ok (.inl x5_50))
def glossaryref01_Read (x0 : List UInt8) : R ((List S_api_Raw) × Int × Int) :=
  (glossaryref01_Read_l1 x0 Many [] 0).bind fun | (.inl x5p83) => glossaryref01_Read_j0 x5p83 | (.inr rp84) => R.ok rp84
theorem glossaryref01_Read_call {h : H} {x0 : List UInt8} {Q : Out → H → Prop} {KK : ((List S_api_Raw) × Int × Int) → Prop} {X : V → Prop} (hq : (glossaryref01_Read x0).post KK X) (hK : ∀ r, KK r → Q (.ret (.tup [.sl 4 (List.map S_api_Raw.enc r.1), .int .i64 r.2.1, .int .i64 r.2.2])) h) (hX : ∀ v, X v → V.Cl 0 v ∧ Q (.panic v) h) : CA qprim 23 [.sl 1 (List.map byteV x0)] h Q := by
  refine acalln hp Try.func23 rfl (by kernel_rfl) (n := 34) rfl (rs := [.tmp 2, .tmp 3, .tmp 4]) rfl [0, 2, 3, 4, 5, 6, 7, 8, 9, 13, 23] [26] true (by simp) ?_
  unfold glossaryref01_Read at hq
  simp only [initEnv, List.map_cons, List.map_nil, List.getD_cons_zero, List.getD_cons_succ, List.getD_nil, V.demote]
  rw [wp_seq]
  refine wp_region_i (by rfl) ?_
  simp only [go_sem, ↓evs_eq, Nat.reduceAdd, ↓reduceIte, Nat.reduceEqDiff, Nat.reduceBEq, Nat.reduceBNe, Nat.reduceLT, Int.reduceToNat, Int.reduceEq, Int.reduceLT, Int.reduceLE, reduceCtorEq, Nat.reduceMul, Nat.reduceLeDiff]
  rw [wp_seq]
  refine wp_region_i (by rfl) ?_
  simp only [go_sem, ↓evs_eq, Nat.reduceAdd, ↓reduceIte, Nat.reduceEqDiff, Nat.reduceBEq, Nat.reduceBNe, Nat.reduceLT, Int.reduceToNat, Int.reduceEq, Int.reduceLT, Int.reduceLE, reduceCtorEq, Nat.reduceMul, Nat.reduceLeDiff]
  refine seq_gen (acall_mono hp) (σ := V × V × V × (List S_api_Raw) × V × V × V × V × V × V) (fun s => [(0, .sl 1 (List.map byteV x0)), (2, s.1), (3, s.2.1), (4, s.2.2.1), (5, .own 73 4 (List.map S_api_Raw.enc s.2.2.2.1)), (6, s.2.2.2.2.1), (7, s.2.2.2.2.2.1), (8, s.2.2.2.2.2.2.1), (9, s.2.2.2.2.2.2.2.1), (13, s.2.2.2.2.2.2.2.2.1), (23, s.2.2.2.2.2.2.2.2.2)]) (fun s => h) (fun s => (glossaryref01_Read_j0 s.2.2.2.1).post KK X) (fun s hq => ?_) (fun N hN36 => ?_)
  · obtain ⟨y2_35, y3_35, y4_35, x5_35, y6_35, y7_35, y8_35, y9_35, y13_35, y23_35⟩ := s
    try dsimp only at hq ⊢
    unfold glossaryref01_Read_j0 at hq
    rw [wp_seq]
    refine wp_region_i (by rfl) ?_
    simp only [go_sem, ↓evs_eq, Nat.reduceAdd, ↓reduceIte, Nat.reduceEqDiff, Nat.reduceBEq, Nat.reduceBNe, Nat.reduceLT, Int.reduceToNat, Int.reduceEq, Int.reduceLT, Int.reduceLE, reduceCtorEq, Nat.reduceMul, Nat.reduceLeDiff]
    rw [wp_ret]
    simp only [retQ, results, resultAll, resultOne, Nat.zero_add, scopeQ, go_sem, ↓evs_eq, Nat.reduceAdd, ↓reduceIte, Nat.reduceEqDiff, Nat.reduceBEq, Nat.reduceBNe, Nat.reduceLT, Int.reduceToNat, Int.reduceEq, Int.reduceLT, Int.reduceLE, reduceCtorEq, Nat.reduceMul, Nat.reduceLeDiff]
    refine ⟨_, (.refl _), ?_⟩
    refine leave_ok0 rfl (.tup _ (cl_cons (.sl _ _ (cl_map (S_api_Raw.cl _))) (cl_cons (.int _ _) (cl_cons (.int _ _) cl_nil)))) ?_
    first | exact hK _ hq | (have hz_ := hK _ hq; simp only [List.map_cons, List.map_nil, go_sem, ↓evs_eq, Nat.reduceAdd, ↓reduceIte, Nat.reduceEqDiff, Nat.reduceBEq, Nat.reduceBNe, Nat.reduceLT, Int.reduceToNat, Int.reduceEq, Int.reduceLT, Int.reduceLE, reduceCtorEq, Nat.reduceMul, Nat.reduceLeDiff] at hz_ ⊢; exact hz_)
  · rw [wp_seq]
    refine wp_region_i (by rfl) ?_
    simp only [go_sem, ↓evs_eq, Nat.reduceAdd, ↓reduceIte, Nat.reduceEqDiff, Nat.reduceBEq, Nat.reduceBNe, Nat.reduceLT, Int.reduceToNat, Int.reduceEq, Int.reduceLT, Int.reduceLE, reduceCtorEq, Nat.reduceMul, Nat.reduceLeDiff]
    rw [wp_block]
    refine loop_in ?_
    refine Wk.le (EnvLe.cons (.refl _) (EnvLe.cons (.top _) (EnvLe.cons (.top _) (EnvLe.cons (.top _) (EnvLe.cons (.nown _ _) (EnvLe.cons (.refl _) (EnvLe.cons (.refl _) (EnvLe.cons (.refl _) (EnvLe.cons (.refl _) (EnvLe.cons (.refl _) (EnvLe.cons (.refl _) EnvLe.nil))))))))))) ?_
    obtain ⟨K65, hK66, hq⟩ := R.post_cut hq
    refine loop_gen (acall_mono hp) (σ := V × V × V × (List S_api_Raw) × Int × V × V × V × V × V) (fun s => [(0, .sl 1 (List.map byteV x0)), (2, s.1), (3, s.2.1), (4, s.2.2.1), (5, .own 73 4 (List.map S_api_Raw.enc s.2.2.2.1)), (6, .int .i64 s.2.2.2.2.1), (7, s.2.2.2.2.2.1), (8, s.2.2.2.2.2.2.1), (9, s.2.2.2.2.2.2.2.1), (13, s.2.2.2.2.2.2.2.2.1), (23, s.2.2.2.2.2.2.2.2.2)]) (fun s => h) (fun k s => (glossaryref01_Read_l1 x0 k s.2.2.2.1 s.2.2.2.2.1).post K65 X) (fun s hs => hs) (fun k82 s hq N hN67 => ?_) _ (_, _, _, [], 0, _, _, _, _, _) hq
    obtain ⟨y2_50, y3_50, y4_50, x5_50, x6_50, y7_50, y8_50, y9_50, y13_50, y23_50⟩ := s
    try dsimp only at hq ⊢
    rw [glossaryref01_Read_l1] at hq
    rw [wp_seq]
    rw [wp_seq]
    refine wp_region_i (by rfl) ?_
    simp only [go_sem, ↓evs_eq, Nat.reduceAdd, ↓reduceIte, Nat.reduceEqDiff, Nat.reduceBEq, Nat.reduceBNe, Nat.reduceLT, Int.reduceToNat, Int.reduceEq, Int.reduceLT, Int.reduceLE, reduceCtorEq, Nat.reduceMul, Nat.reduceLeDiff]
    rw [wp_cond]
    simp only [go_sem, ↓evs_eq, Nat.reduceAdd, ↓reduceIte, Nat.reduceEqDiff, Nat.reduceBEq, Nat.reduceBNe, Nat.reduceLT, Int.reduceToNat, Int.reduceEq, Int.reduceLT, Int.reduceLE, reduceCtorEq, Nat.reduceMul, Nat.reduceLeDiff]
    by_cases hc68 : x6_50 < (List.length x0 : Int)
    · replace hq := (R.post_if hq).1 hc68
      refine condK_t (congrArg V.bool (decide_eq_true hc68)) ?_
      try simp only [wp_skip, RC, roundK_x, roundK_g, roundK_r]
      refine Wk.same ?_
      try simp only [RC, roundK_x, roundK_g, roundK_r]
      rw [wp_block]
      rw [wp_seq]
      refine wp_region_i (by rfl) ?_
      obtain ⟨g73, hq⟩ := R.guard hq
      simp only [go_sem, ↓evs_eq, Nat.reduceAdd, ↓reduceIte, Nat.reduceEqDiff, Nat.reduceBEq, Nat.reduceBNe, Nat.reduceLT, Int.reduceToNat, Int.reduceEq, Int.reduceLT, Int.reduceLE, reduceCtorEq, Nat.reduceMul, Nat.reduceLeDiff]
      repeat (with_reducible refine And.intro (by first | omega | assumption) ?_)
      obtain ⟨K80, hK81, hq⟩ := R.post_cut hq
      refine glossaryref01_Take_call (x0 := (List.drop (Int.toNat x6_50) x0)) hq (fun r74 hq => ?_) (fun v hv => ⟨(hX v hv).1, ?_⟩)
      · replace hq := hK81 _ hq
        simp only [go_sem, ↓evs_eq, Nat.reduceAdd, ↓reduceIte, Nat.reduceEqDiff, Nat.reduceBEq, Nat.reduceBNe, Nat.reduceLT, Int.reduceToNat, Int.reduceEq, Int.reduceLT, Int.reduceLE, reduceCtorEq, Nat.reduceMul, Nat.reduceLeDiff]
        rw [wp_seq]
        rw [wp_seq]
        refine wp_region_i (by rfl) ?_
        simp only [go_sem, ↓evs_eq, Nat.reduceAdd, ↓reduceIte, Nat.reduceEqDiff, Nat.reduceBEq, Nat.reduceBNe, Nat.reduceLT, Int.reduceToNat, Int.reduceEq, Int.reduceLT, Int.reduceLE, reduceCtorEq, Nat.reduceMul, Nat.reduceLeDiff]
        rw [wp_cond]
        simp only [go_sem, ↓evs_eq, Nat.reduceAdd, ↓reduceIte, Nat.reduceEqDiff, Nat.reduceBEq, Nat.reduceBNe, Nat.reduceLT, Int.reduceToNat, Int.reduceEq, Int.reduceLT, Int.reduceLE, reduceCtorEq, Nat.reduceMul, Nat.reduceLeDiff]
        by_cases hc75 : r74.2.2 = 0
        · replace hq := (R.post_if hq).1 hc75
          refine condK_f (congrArg (fun b => V.bool (!b)) (decide_eq_true hc75)) ?_
          try simp only [wp_skip, RC, roundK_x, roundK_g, roundK_r]
          refine Wk.same ?_
          try simp only [RC, roundK_x, roundK_g, roundK_r]
          rw [wp_seq]
          refine wp_region_i (by rfl) ?_
          obtain ⟨g78, hq⟩ := R.guard hq
          have e79 : List.map S_api_Raw.enc x5_50 ++ [.agg [.int .i64 r74.1.Num, .int .i64 r74.1.Kind, .int .u64 r74.1.N, .sl 1 (List.map byteV r74.1.B)]] = List.map S_api_Raw.enc (x5_50 ++ ([r74.1])) := (List.map_append (f := S_api_Raw.enc) (l₁ := x5_50) (l₂ := [r74.1])).symm
          simp only [e79, go_sem, ↓evs_eq, Nat.reduceAdd, ↓reduceIte, Nat.reduceEqDiff, Nat.reduceBEq, Nat.reduceBNe, Nat.reduceLT, Int.reduceToNat, Int.reduceEq, Int.reduceLT, Int.reduceLE, reduceCtorEq, Nat.reduceMul, Nat.reduceLeDiff]
          repeat (with_reducible refine And.intro (by first | omega | assumption) ?_)
          refine wp_region_i (by rfl) ?_
          simp only [go_sem, ↓evs_eq, Nat.reduceAdd, ↓reduceIte, Nat.reduceEqDiff, Nat.reduceBEq, Nat.reduceBNe, Nat.reduceLT, Int.reduceToNat, Int.reduceEq, Int.reduceLT, Int.reduceLE, reduceCtorEq, Nat.reduceMul, Nat.reduceLeDiff]
          refine Wk.drop0 (by rfl) (EnvLe.cons (.refl _) (EnvLe.cons (.top _) (EnvLe.cons (.top _) (EnvLe.cons (.top _) (EnvLe.cons (.refl _) (EnvLe.cons (.refl _) (EnvLe.cons (.top _) (EnvLe.cons (.top _) (EnvLe.cons (.top _) (EnvLe.cons (.top _) (EnvLe.cons (.top _) EnvLe.nil))))))))))) (EnvCl.cons (.sl _ _ (cl_map (fun x => cl_byte x))) (EnvCl.cons .top (EnvCl.cons .top (EnvCl.cons .top (EnvCl.cons (.own _ _ _ (cl_map (S_api_Raw.cl _))) (EnvCl.cons (.int _ _) (EnvCl.cons .top (EnvCl.cons .top (EnvCl.cons .top (EnvCl.cons .top (EnvCl.cons .top (EnvCl.nil _)))))))))))) ?_
          try simp only [RC, roundK_x, roundK_g, roundK_r]
          refine Wk.same ?_
          exact hN67 (_, _, _, (x5_50 ++ ([r74.1])), (IntKind.wrap .i64 (x6_50 + r74.2.1)), _, _, _, _, _) hq
        · replace hq := (R.post_if hq).2 hc75
          refine condK_t (congrArg (fun b => V.bool (!b)) (decide_eq_false hc75)) ?_
          rw [wp_seq]
          refine wp_region_i (by rfl) ?_
          simp only [go_sem, ↓evs_eq, Nat.reduceAdd, ↓reduceIte, Nat.reduceEqDiff, Nat.reduceBEq, Nat.reduceBNe, Nat.reduceLT, Int.reduceToNat, Int.reduceEq, Int.reduceLT, Int.reduceLE, reduceCtorEq, Nat.reduceMul, Nat.reduceLeDiff]
          rw [wp_ret]
          simp only [retQ, results, resultAll, resultOne, Nat.zero_add, scopeQ, go_sem, ↓evs_eq, Nat.reduceAdd, ↓reduceIte, Nat.reduceEqDiff, Nat.reduceBEq, Nat.reduceBNe, Nat.reduceLT, Int.reduceToNat, Int.reduceEq, Int.reduceLT, Int.reduceLE, reduceCtorEq, Nat.reduceMul, Nat.reduceLeDiff]
          refine ⟨_, (.tup _ _ (LLe.cons (.nsl _ _) (LLe.cons (.refl _) (LLe.cons (.refl _) LLe.nil))).1 (LLe.cons (.nsl _ _) (LLe.cons (.refl _) (LLe.cons (.refl _) LLe.nil))).2), ?_⟩
          refine leave_ok rfl (.tup _ (cl_cons (.sl _ _ cl_nil) (cl_cons (.int _ _) (cl_cons (.int _ _) cl_nil)))) ?_
          replace hq := hK66 _ hq
          first | exact hK _ hq | (have hz_ := hK _ hq; simp only [List.map_cons, List.map_nil, go_sem, ↓evs_eq, Nat.reduceAdd, ↓reduceIte, Nat.reduceEqDiff, Nat.reduceBEq, Nat.reduceBNe, Nat.reduceLT, Int.reduceToNat, Int.reduceEq, Int.reduceLT, Int.reduceLE, reduceCtorEq, Nat.reduceMul, Nat.reduceLeDiff] at hz_ ⊢; exact hz_)
      · simp only [RC, roundK_x, roundK_g, roundK_r, scopeQ, retQ, ↓reduceIte, Bool.false_eq_true]
        exact leaveP_ok0 ((hX _ hv).1.mono (Nat.zero_le _)) (hX _ hv).2
    · replace hq := (R.post_if hq).2 hc68
      refine condK_f (congrArg V.bool (decide_eq_false hc68)) ?_
      rw [wp_exit]
      try simp only [↓reduceIte, Nat.reduceEqDiff, reduceCtorEq, if_false, if_true, eq_self, Nat.succ_ne_self, RC, roundK_x, roundK_g, roundK_r]
      replace hq := hK66 _ hq
      try dsimp only at hq
      refine Wk.le (EnvLe.cons (.refl _) (EnvLe.cons (.refl _) (EnvLe.cons (.refl _) (EnvLe.cons (.refl _) (EnvLe.cons (.refl _) (EnvLe.cons (.top _) (EnvLe.cons (.refl _) (EnvLe.cons (.refl _) (EnvLe.cons (.refl _) (EnvLe.cons (.top _) (EnvLe.cons (.refl _) EnvLe.nil))))))))))) ?_
      try simp only [RC, roundK_x, roundK_g, roundK_r]
      exact hN36 (_, _, _, x5_50, _, _, _, _, _, _) hq
end Go.Proofs.Ytpbnnbjkjaajnaa.Pv
set_option linter.unusedVariables false
set_option linter.unusedSimpArgs false
set_option maxHeartbeats 4000000
set_option maxRecDepth 10000
namespace Go.Proofs.Ytpbnnbjkjaajnaa.Pv
open Go Go.Proofs

attribute [local go_sem] RC RL RM roundK_x roundK_g roundK_r loadN V.slz V.slz1 lnB V.left V.lenOf slice3 sliceNil Option.getD_none Option.getD_some sliceOp cut upon_each nextM entryOp buildOk lookup lookV update elemOf Option.isSome_map unOp wanted aop tkB rwB neD Env.get Env.put Env.keep putD dstOk ev constV nilSlice V.demote V.toOwn V.asOwn V.cells tyE R1.res binOp isShift binOpT isC intOp strOp shiftOp byteV index indexAddr slice bounds hiB loB withB maxV minV evs pickV lenV builtin initEnv convert K.isU8 strOf load store fieldOf append appT fltOp cpxV realV imagV toInt rangeOp nextOp room fill placeOf splice repl chunks Ty.val Ty.agg V.plain H.row H.ety AObj.row putAll demEnv updH S_api_Message.enc_eq S_api_Field.enc S_api_Enum.enc S_api_Value.enc S_api_Range.enc S_api_Oneof.enc S_api_File.enc S_api_Service.enc S_api_Method.enc S_api_Raw.enc
def glossaryref14_Entry_j0 (r4 : (List S_api_Raw) × Int × Int) (x6_40 : Bool) : R (Bool) :=
  (if x6_40 = true then (R.ok (decide (r4.2.2 = 0))) else (R.ok false)).bind fun x2m42 => R.ok x2m42
def glossaryref14_Entry_l1 (r4 : (List S_api_Raw) × Int × Int) : Nat → Bool → Int → R (Bool)
  | 0, _, _ => R.stuck
  | k + 1, x6_57, x18_57 => if x18_57 < (List.length r4.1 : Int) then (if 0 ≤ x18_57 ∧ x18_57 < (List.length r4.1 : Int) then ((if (gt r4.1 x18_57).Num = 7 then (R.ok (decide ((gt r4.1 x18_57).Kind = 0))) else (R.ok false)).bind fun x29m75 => if x29m75 = true then (glossaryref14_Entry_l1 r4 k (!(decide ((gt r4.1 x18_57).N = 0))) (IntKind.wrap .i64 (x18_57 + 1))) else (glossaryref14_Entry_l1 r4 k x6_57 (IntKind.wrap .i64 (x18_57 + 1)))) else R.stuck) else (R.ok x6_57)
def glossaryref14_Entry (x0 : S_api_Message) : R (Bool) :=
  (glossaryref01_Read x0.Options).bind fun r4 => (glossaryref14_Entry_l1 r4 Many false 0).bind fun x6p82 => glossaryref14_Entry_j0 r4 x6p82
theorem glossaryref14_Entry_call {h : H} {x0 : S_api_Message} {Q : Out → H → Prop} {KK : (Bool) → Prop} {X : V → Prop} (hq : (glossaryref14_Entry x0).post KK X) (hK : ∀ r, KK r → Q (.ret (.bool r)) h) (hX : ∀ v, X v → V.Cl 0 v ∧ Q (.panic v) h) : CA qprim 9 [.agg [.str x0.Name, .sl 13 (List.map S_api_Field.enc x0.Fields), .sl 11 (List.map S_api_Message.enc x0.Nested), .sl 4 (List.map S_api_Enum.enc x0.Enums), .sl 2 (List.map S_api_Range.enc x0.Ranges), .sl 13 (List.map S_api_Field.enc x0.Extends), .sl 3 (List.map S_api_Oneof.enc x0.Oneofs), .sl 2 (List.map S_api_Range.enc x0.Reserved), .sl 1 (List.map V.str x0.Words), .sl 1 (List.map byteV x0.Options), .sl 1 (List.map byteV x0.Unknown)]] h Q := by
  refine acalln hp Try.func9 rfl (by kernel_rfl) (n := 39) rfl (rs := [.tmp 2]) rfl [0, 1, 2, 3, 5, 6, 8, 16, 17, 18, 19, 29] [] true (by simp) ?_
  unfold glossaryref14_Entry at hq
  simp only [initEnv, List.map_cons, List.map_nil, List.getD_cons_zero, List.getD_cons_succ, List.getD_nil, V.demote]
  rw [wp_seq]
  refine wp_region_i (by rfl) ?_
  simp only [go_sem, ↓evs_eq, Nat.reduceAdd, ↓reduceIte, Nat.reduceEqDiff, Nat.reduceBEq, Nat.reduceBNe, Nat.reduceLT, Int.reduceToNat, Int.reduceEq, Int.reduceLT, Int.reduceLE, reduceCtorEq, Nat.reduceMul, Nat.reduceLeDiff]
  rw [wp_seq]
  refine wp_region_i (by rfl) ?_
  simp only [go_sem, ↓evs_eq, Nat.reduceAdd, ↓reduceIte, Nat.reduceEqDiff, Nat.reduceBEq, Nat.reduceBNe, Nat.reduceLT, Int.reduceToNat, Int.reduceEq, Int.reduceLT, Int.reduceLE, reduceCtorEq, Nat.reduceMul, Nat.reduceLeDiff]
  obtain ⟨K83, hK84, hq⟩ := R.post_cut hq
  refine glossaryref01_Read_call (x0 := x0.Options) hq (fun r4 hq => ?_) (fun v hv => ⟨(hX v hv).1, ?_⟩)
  · replace hq := hK84 _ hq
    simp only [go_sem, ↓evs_eq, Nat.reduceAdd, ↓reduceIte, Nat.reduceEqDiff, Nat.reduceBEq, Nat.reduceBNe, Nat.reduceLT, Int.reduceToNat, Int.reduceEq, Int.reduceLT, Int.reduceLE, reduceCtorEq, Nat.reduceMul, Nat.reduceLeDiff]
    rw [wp_seq]
    refine wp_region_i (by rfl) ?_
    simp only [go_sem, ↓evs_eq, Nat.reduceAdd, ↓reduceIte, Nat.reduceEqDiff, Nat.reduceBEq, Nat.reduceBNe, Nat.reduceLT, Int.reduceToNat, Int.reduceEq, Int.reduceLT, Int.reduceLE, reduceCtorEq, Nat.reduceMul, Nat.reduceLeDiff]
    refine seq_gen (acall_mono hp) (σ := V × V × V × V × Bool × V × V × V × V × V × V) (fun s => [(0, s.1), (1, s.2.1), (2, s.2.2.1), (3, s.2.2.2.1), (5, .int .i64 r4.2.2), (6, .bool s.2.2.2.2.1), (8, s.2.2.2.2.2.1), (16, s.2.2.2.2.2.2.1), (17, s.2.2.2.2.2.2.2.1), (18, s.2.2.2.2.2.2.2.2.1), (19, s.2.2.2.2.2.2.2.2.2.1), (29, s.2.2.2.2.2.2.2.2.2.2)]) (fun s => h ++ [.cells 30 [.str x0.Name, .sl 13 (List.map S_api_Field.enc x0.Fields), .sl 11 (List.map S_api_Message.enc x0.Nested), .sl 4 (List.map S_api_Enum.enc x0.Enums), .sl 2 (List.map S_api_Range.enc x0.Ranges), .sl 13 (List.map S_api_Field.enc x0.Extends), .sl 3 (List.map S_api_Oneof.enc x0.Oneofs), .sl 2 (List.map S_api_Range.enc x0.Reserved), .sl 1 (List.map V.str x0.Words), .sl 1 (List.map byteV x0.Options), .sl 1 (List.map byteV x0.Unknown)]]) (fun s => (glossaryref14_Entry_j0 r4 s.2.2.2.2.1).post KK X) (fun s hq => ?_) (fun N hN47 => ?_)
    · obtain ⟨y0_40, y1_40, y2_40, y3_40, x6_40, y8_40, y16_40, y17_40, y18_40, y19_40, y29_40⟩ := s
      try dsimp only at hq ⊢
      unfold glossaryref14_Entry_j0 at hq
      obtain ⟨K43, hK44, hq⟩ := R.post_cut hq
      refine seq_gen (acall_mono hp) (σ := Bool × V) (fun s => [(0, y0_40), (1, y1_40), (2, .bool s.1), (3, y3_40), (5, .int .i64 r4.2.2), (6, s.2), (8, y8_40), (16, y16_40), (17, y17_40), (18, y18_40), (19, y19_40), (29, y29_40)]) (fun s => h ++ [.cells 30 [.str x0.Name, .sl 13 (List.map S_api_Field.enc x0.Fields), .sl 11 (List.map S_api_Message.enc x0.Nested), .sl 4 (List.map S_api_Enum.enc x0.Enums), .sl 2 (List.map S_api_Range.enc x0.Ranges), .sl 13 (List.map S_api_Field.enc x0.Extends), .sl 3 (List.map S_api_Oneof.enc x0.Oneofs), .sl 2 (List.map S_api_Range.enc x0.Reserved), .sl 1 (List.map V.str x0.Words), .sl 1 (List.map byteV x0.Options), .sl 1 (List.map byteV x0.Unknown)]]) (fun s => K43 s.1) (fun s hq => ?_) (fun N hN45 => ?_)
      · obtain ⟨x2m42, y6m42⟩ := s
        replace hq := hK44 _ hq
        try dsimp only at hq ⊢
        rw [wp_ret]
        simp only [retQ, results, resultAll, resultOne, Nat.zero_add, scopeQ, go_sem, ↓evs_eq, Nat.reduceAdd, ↓reduceIte, Nat.reduceEqDiff, Nat.reduceBEq, Nat.reduceBNe, Nat.reduceLT, Int.reduceToNat, Int.reduceEq, Int.reduceLT, Int.reduceLE, reduceCtorEq, Nat.reduceMul, Nat.reduceLeDiff]
        refine ⟨_, (.refl _), ?_⟩
        refine leave_ok rfl (.bool _) ?_
        first | exact hK _ hq | (have hz_ := hK _ hq; simp only [List.map_cons, List.map_nil, go_sem, ↓evs_eq, Nat.reduceAdd, ↓reduceIte, Nat.reduceEqDiff, Nat.reduceBEq, Nat.reduceBNe, Nat.reduceLT, Int.reduceToNat, Int.reduceEq, Int.reduceLT, Int.reduceLE, reduceCtorEq, Nat.reduceMul, Nat.reduceLeDiff] at hz_ ⊢; exact hz_)
      · refine wp_region_i (by rfl) ?_
        simp only [go_sem, ↓evs_eq, Nat.reduceAdd, ↓reduceIte, Nat.reduceEqDiff, Nat.reduceBEq, Nat.reduceBNe, Nat.reduceLT, Int.reduceToNat, Int.reduceEq, Int.reduceLT, Int.reduceLE, reduceCtorEq, Nat.reduceMul, Nat.reduceLeDiff]
        by_cases hc46 : x6_40 = true
        · replace hq := (R.post_if hq).1 hc46
          simp only [hc46, go_sem, ↓evs_eq, Nat.reduceAdd, ↓reduceIte, Nat.reduceEqDiff, Nat.reduceBEq, Nat.reduceBNe, Nat.reduceLT, Int.reduceToNat, Int.reduceEq, Int.reduceLT, Int.reduceLE, reduceCtorEq, Nat.reduceMul, Nat.reduceLeDiff]
          exact hN45 ((decide (r4.2.2 = 0)), _) hq
        · replace hq := (R.post_if hq).2 hc46
          replace hc46 := eq_false_of_ne_true hc46
          simp only [hc46, go_sem, ↓evs_eq, Nat.reduceAdd, ↓reduceIte, Nat.reduceEqDiff, Nat.reduceBEq, Nat.reduceBNe, Nat.reduceLT, Int.reduceToNat, Int.reduceEq, Int.reduceLT, Int.reduceLE, reduceCtorEq, Nat.reduceMul, Nat.reduceLeDiff]
          exact hN45 (false, _) hq
    · rw [wp_seq]
      refine wp_region_i (by rfl) ?_
      simp only [go_sem, ↓evs_eq, Nat.reduceAdd, ↓reduceIte, Nat.reduceEqDiff, Nat.reduceBEq, Nat.reduceBNe, Nat.reduceLT, Int.reduceToNat, Int.reduceEq, Int.reduceLT, Int.reduceLE, reduceCtorEq, Nat.reduceMul, Nat.reduceLeDiff]
      rw [wp_block]
      refine loop_in ?_
      refine Wk.le (EnvLe.cons (.top _) (EnvLe.cons (.top _) (EnvLe.cons (.top _) (EnvLe.cons (.top _) (EnvLe.cons (.refl _) (EnvLe.cons (.refl _) (EnvLe.cons (.refl _) (EnvLe.cons (.refl _) (EnvLe.cons (.refl _) (EnvLe.cons (.refl _) (EnvLe.cons (.refl _) (EnvLe.cons (.refl _) EnvLe.nil)))))))))))) ?_
      obtain ⟨K66, hK67, hq⟩ := R.post_cut hq
      refine loop_gen (acall_mono hp) (σ := V × V × V × V × Bool × V × Int × V × V) (fun s => [(0, s.1), (1, s.2.1), (2, s.2.2.1), (3, s.2.2.2.1), (5, .int .i64 r4.2.2), (6, .bool s.2.2.2.2.1), (8, s.2.2.2.2.2.1), (16, .sl 4 (List.map S_api_Raw.enc r4.1)), (17, .int .i64 (List.length r4.1 : Int)), (18, .int .i64 s.2.2.2.2.2.2.1), (19, s.2.2.2.2.2.2.2.1), (29, s.2.2.2.2.2.2.2.2)]) (fun s => h ++ [.cells 30 [.str x0.Name, .sl 13 (List.map S_api_Field.enc x0.Fields), .sl 11 (List.map S_api_Message.enc x0.Nested), .sl 4 (List.map S_api_Enum.enc x0.Enums), .sl 2 (List.map S_api_Range.enc x0.Ranges), .sl 13 (List.map S_api_Field.enc x0.Extends), .sl 3 (List.map S_api_Oneof.enc x0.Oneofs), .sl 2 (List.map S_api_Range.enc x0.Reserved), .sl 1 (List.map V.str x0.Words), .sl 1 (List.map byteV x0.Options), .sl 1 (List.map byteV x0.Unknown)]]) (fun k s => (glossaryref14_Entry_l1 r4 k s.2.2.2.2.1 s.2.2.2.2.2.2.1).post K66 X) (fun s hs => hs) (fun k81 s hq N hN68 => ?_) _ (_, _, _, _, false, _, 0, _, _) hq
      obtain ⟨y0_57, y1_57, y2_57, y3_57, x6_57, y8_57, x18_57, y19_57, y29_57⟩ := s
      try dsimp only at hq ⊢
      rw [glossaryref14_Entry_l1] at hq
      rw [wp_seq]
      refine wp_region_i (by rfl) ?_
      simp only [go_sem, ↓evs_eq, Nat.reduceAdd, ↓reduceIte, Nat.reduceEqDiff, Nat.reduceBEq, Nat.reduceBNe, Nat.reduceLT, Int.reduceToNat, Int.reduceEq, Int.reduceLT, Int.reduceLE, reduceCtorEq, Nat.reduceMul, Nat.reduceLeDiff]
      rw [wp_seq]
      rw [wp_cond]
      simp only [go_sem, ↓evs_eq, Nat.reduceAdd, ↓reduceIte, Nat.reduceEqDiff, Nat.reduceBEq, Nat.reduceBNe, Nat.reduceLT, Int.reduceToNat, Int.reduceEq, Int.reduceLT, Int.reduceLE, reduceCtorEq, Nat.reduceMul, Nat.reduceLeDiff]
      by_cases hc69 : x18_57 < (List.length r4.1 : Int)
      · replace hq := (R.post_if hq).1 hc69
        refine condK_t (congrArg V.bool (decide_eq_true hc69)) ?_
        try simp only [wp_skip, RC, roundK_x, roundK_g, roundK_r]
        refine Wk.same ?_
        try simp only [RC, roundK_x, roundK_g, roundK_r]
        rw [wp_seq]
        rw [wp_block]
        rw [wp_seq]
        refine wp_region_i (by rfl) ?_
        obtain ⟨g72, hq⟩ := R.guard hq
        have e73 := map_gt (f := S_api_Raw.enc) (l := r4.1) (i := x18_57) g72
        simp only [e73, go_sem, ↓evs_eq, Nat.reduceAdd, ↓reduceIte, Nat.reduceEqDiff, Nat.reduceBEq, Nat.reduceBNe, Nat.reduceLT, Int.reduceToNat, Int.reduceEq, Int.reduceLT, Int.reduceLE, reduceCtorEq, Nat.reduceMul, Nat.reduceLeDiff]
        repeat (with_reducible refine And.intro (by first | omega | assumption) ?_)
        obtain ⟨K76, hK77, hq⟩ := R.post_cut hq
        refine seq_gen (acall_mono hp) (σ := Bool) (fun s => [(0, y0_57), (1, y1_57), (2, y2_57), (3, y3_57), (5, .int .i64 r4.2.2), (6, .bool x6_57), (8, .ref (h.length + 1) 0), (16, .sl 4 (List.map S_api_Raw.enc r4.1)), (17, .int .i64 (List.length r4.1 : Int)), (18, .int .i64 x18_57), (19, .bool (decide (x18_57 < (List.length r4.1 : Int)))), (29, .bool s)]) (fun s => h ++ [.cells 30 [.str x0.Name, .sl 13 (List.map S_api_Field.enc x0.Fields), .sl 11 (List.map S_api_Message.enc x0.Nested), .sl 4 (List.map S_api_Enum.enc x0.Enums), .sl 2 (List.map S_api_Range.enc x0.Ranges), .sl 13 (List.map S_api_Field.enc x0.Extends), .sl 3 (List.map S_api_Oneof.enc x0.Oneofs), .sl 2 (List.map S_api_Range.enc x0.Reserved), .sl 1 (List.map V.str x0.Words), .sl 1 (List.map byteV x0.Options), .sl 1 (List.map byteV x0.Unknown)], .cells 73 [.int .i64 ((gt r4.1 x18_57).Num), .int .i64 ((gt r4.1 x18_57).Kind), .int .u64 ((gt r4.1 x18_57).N), .sl 1 (List.map byteV (gt r4.1 x18_57).B)]]) (fun s => K76 s) (fun x29m75 hq => ?_) (fun N hN78 => ?_)
        · replace hq := hK77 _ hq
          try dsimp only at hq ⊢
          rw [wp_cond]
          simp only [go_sem, ↓evs_eq, Nat.reduceAdd, ↓reduceIte, Nat.reduceEqDiff, Nat.reduceBEq, Nat.reduceBNe, Nat.reduceLT, Int.reduceToNat, Int.reduceEq, Int.reduceLT, Int.reduceLE, reduceCtorEq, Nat.reduceMul, Nat.reduceLeDiff]
          by_cases hc80 : x29m75 = true
          · replace hq := (R.post_if hq).1 hc80
            refine condK_t (congrArg V.bool (hc80)) ?_
            refine wp_region_i (by rfl) ?_
            simp only [go_sem, ↓evs_eq, Nat.reduceAdd, ↓reduceIte, Nat.reduceEqDiff, Nat.reduceBEq, Nat.reduceBNe, Nat.reduceLT, Int.reduceToNat, Int.reduceEq, Int.reduceLT, Int.reduceLE, reduceCtorEq, Nat.reduceMul, Nat.reduceLeDiff]
            refine Wk.same ?_
            try simp only [RC, roundK_x, roundK_g, roundK_r]
            refine Wk.drop [.cells 30 [.str x0.Name, .sl 13 (List.map S_api_Field.enc x0.Fields), .sl 11 (List.map S_api_Message.enc x0.Nested), .sl 4 (List.map S_api_Enum.enc x0.Enums), .sl 2 (List.map S_api_Range.enc x0.Ranges), .sl 13 (List.map S_api_Field.enc x0.Extends), .sl 3 (List.map S_api_Oneof.enc x0.Oneofs), .sl 2 (List.map S_api_Range.enc x0.Reserved), .sl 1 (List.map V.str x0.Words), .sl 1 (List.map byteV x0.Options), .sl 1 (List.map byteV x0.Unknown)]] _ [.cells 73 [.int .i64 ((gt r4.1 x18_57).Num), .int .i64 ((gt r4.1 x18_57).Kind), .int .u64 ((gt r4.1 x18_57).N), .sl 1 (List.map byteV (gt r4.1 x18_57).B)]] rfl rfl (EnvLe.cons (.top _) (EnvLe.cons (.top _) (EnvLe.cons (.top _) (EnvLe.cons (.top _) (EnvLe.cons (.refl _) (EnvLe.cons (.refl _) (EnvLe.cons (.top _) (EnvLe.cons (.refl _) (EnvLe.cons (.refl _) (EnvLe.cons (.refl _) (EnvLe.cons (.top _) (EnvLe.cons (.top _) EnvLe.nil)))))))))))) (EnvCl.cons .top (EnvCl.cons .top (EnvCl.cons .top (EnvCl.cons .top (EnvCl.cons (.int _ _) (EnvCl.cons (.bool _) (EnvCl.cons .top (EnvCl.cons (.sl _ _ (cl_map (S_api_Raw.cl _))) (EnvCl.cons (.int _ _) (EnvCl.cons (.int _ _) (EnvCl.cons .top (EnvCl.cons .top (EnvCl.nil _))))))))))))) (objcl_cons (cl_cons (.str _) (cl_cons (.sl _ _ (cl_map (S_api_Field.cl _))) (cl_cons (.sl _ _ (cl_map (S_api_Message.cl _))) (cl_cons (.sl _ _ (cl_map (S_api_Enum.cl _))) (cl_cons (.sl _ _ (cl_map (S_api_Range.cl _))) (cl_cons (.sl _ _ (cl_map (S_api_Field.cl _))) (cl_cons (.sl _ _ (cl_map (S_api_Oneof.cl _))) (cl_cons (.sl _ _ (cl_map (S_api_Range.cl _))) (cl_cons (.sl _ _ (cl_map (fun x => .str _))) (cl_cons (.sl _ _ (cl_map (fun x => cl_byte x))) (cl_cons (.sl _ _ (cl_map (fun x => cl_byte x))) cl_nil))))))))))) objcl_nil) ?_
            try simp only [RC, roundK_x, roundK_g, roundK_r]
            refine wp_region_i (by rfl) ?_
            simp only [go_sem, ↓evs_eq, Nat.reduceAdd, ↓reduceIte, Nat.reduceEqDiff, Nat.reduceBEq, Nat.reduceBNe, Nat.reduceLT, Int.reduceToNat, Int.reduceEq, Int.reduceLT, Int.reduceLE, reduceCtorEq, Nat.reduceMul, Nat.reduceLeDiff]
            refine Wk.same ?_
            exact hN68 (_, _, _, _, (!(decide ((gt r4.1 x18_57).N = 0))), _, (IntKind.wrap .i64 (x18_57 + 1)), _, _) hq
          · replace hq := (R.post_if hq).2 hc80
            replace hc80 := eq_false_of_ne_true hc80
            refine condK_f (congrArg V.bool (hc80)) ?_
            try simp only [wp_skip, RC, roundK_x, roundK_g, roundK_r]
            refine Wk.same ?_
            try simp only [RC, roundK_x, roundK_g, roundK_r]
            refine Wk.drop [.cells 30 [.str x0.Name, .sl 13 (List.map S_api_Field.enc x0.Fields), .sl 11 (List.map S_api_Message.enc x0.Nested), .sl 4 (List.map S_api_Enum.enc x0.Enums), .sl 2 (List.map S_api_Range.enc x0.Ranges), .sl 13 (List.map S_api_Field.enc x0.Extends), .sl 3 (List.map S_api_Oneof.enc x0.Oneofs), .sl 2 (List.map S_api_Range.enc x0.Reserved), .sl 1 (List.map V.str x0.Words), .sl 1 (List.map byteV x0.Options), .sl 1 (List.map byteV x0.Unknown)]] _ [.cells 73 [.int .i64 ((gt r4.1 x18_57).Num), .int .i64 ((gt r4.1 x18_57).Kind), .int .u64 ((gt r4.1 x18_57).N), .sl 1 (List.map byteV (gt r4.1 x18_57).B)]] rfl rfl (EnvLe.cons (.top _) (EnvLe.cons (.top _) (EnvLe.cons (.top _) (EnvLe.cons (.top _) (EnvLe.cons (.refl _) (EnvLe.cons (.refl _) (EnvLe.cons (.top _) (EnvLe.cons (.refl _) (EnvLe.cons (.refl _) (EnvLe.cons (.refl _) (EnvLe.cons (.top _) (EnvLe.cons (.top _) EnvLe.nil)))))))))))) (EnvCl.cons .top (EnvCl.cons .top (EnvCl.cons .top (EnvCl.cons .top (EnvCl.cons (.int _ _) (EnvCl.cons (.bool _) (EnvCl.cons .top (EnvCl.cons (.sl _ _ (cl_map (S_api_Raw.cl _))) (EnvCl.cons (.int _ _) (EnvCl.cons (.int _ _) (EnvCl.cons .top (EnvCl.cons .top (EnvCl.nil _))))))))))))) (objcl_cons (cl_cons (.str _) (cl_cons (.sl _ _ (cl_map (S_api_Field.cl _))) (cl_cons (.sl _ _ (cl_map (S_api_Message.cl _))) (cl_cons (.sl _ _ (cl_map (S_api_Enum.cl _))) (cl_cons (.sl _ _ (cl_map (S_api_Range.cl _))) (cl_cons (.sl _ _ (cl_map (S_api_Field.cl _))) (cl_cons (.sl _ _ (cl_map (S_api_Oneof.cl _))) (cl_cons (.sl _ _ (cl_map (S_api_Range.cl _))) (cl_cons (.sl _ _ (cl_map (fun x => .str _))) (cl_cons (.sl _ _ (cl_map (fun x => cl_byte x))) (cl_cons (.sl _ _ (cl_map (fun x => cl_byte x))) cl_nil))))))))))) objcl_nil) ?_
            try simp only [RC, roundK_x, roundK_g, roundK_r]
            refine wp_region_i (by rfl) ?_
            simp only [go_sem, ↓evs_eq, Nat.reduceAdd, ↓reduceIte, Nat.reduceEqDiff, Nat.reduceBEq, Nat.reduceBNe, Nat.reduceLT, Int.reduceToNat, Int.reduceEq, Int.reduceLT, Int.reduceLE, reduceCtorEq, Nat.reduceMul, Nat.reduceLeDiff]
            refine Wk.same ?_
            exact hN68 (_, _, _, _, x6_57, _, (IntKind.wrap .i64 (x18_57 + 1)), _, _) hq
        · refine wp_region_i (by rfl) ?_
          simp only [go_sem, ↓evs_eq, Nat.reduceAdd, ↓reduceIte, Nat.reduceEqDiff, Nat.reduceBEq, Nat.reduceBNe, Nat.reduceLT, Int.reduceToNat, Int.reduceEq, Int.reduceLT, Int.reduceLE, reduceCtorEq, Nat.reduceMul, Nat.reduceLeDiff]
          by_cases hc79 : (gt r4.1 x18_57).Num = 7
          · replace hq := (R.post_if hq).1 hc79
            simp only [decide_eq_true hc79, go_sem, ↓evs_eq, Nat.reduceAdd, ↓reduceIte, Nat.reduceEqDiff, Nat.reduceBEq, Nat.reduceBNe, Nat.reduceLT, Int.reduceToNat, Int.reduceEq, Int.reduceLT, Int.reduceLE, reduceCtorEq, Nat.reduceMul, Nat.reduceLeDiff]
            exact hN78 (decide ((gt r4.1 x18_57).Kind = 0)) hq
          · replace hq := (R.post_if hq).2 hc79
            simp only [decide_eq_false hc79, go_sem, ↓evs_eq, Nat.reduceAdd, ↓reduceIte, Nat.reduceEqDiff, Nat.reduceBEq, Nat.reduceBNe, Nat.reduceLT, Int.reduceToNat, Int.reduceEq, Int.reduceLT, Int.reduceLE, reduceCtorEq, Nat.reduceMul, Nat.reduceLeDiff]
            exact hN78 false hq
      · replace hq := (R.post_if hq).2 hc69
        refine condK_f (congrArg V.bool (decide_eq_false hc69)) ?_
        rw [wp_exit]
        try simp only [↓reduceIte, Nat.reduceEqDiff, reduceCtorEq, if_false, if_true, eq_self, Nat.succ_ne_self, RC, roundK_x, roundK_g, roundK_r]
        replace hq := hK67 _ hq
        try dsimp only at hq
        refine Wk.le (EnvLe.cons (.refl _) (EnvLe.cons (.refl _) (EnvLe.cons (.refl _) (EnvLe.cons (.refl _) (EnvLe.cons (.refl _) (EnvLe.cons (.refl _) (EnvLe.cons (.refl _) (EnvLe.cons (.top _) (EnvLe.cons (.top _) (EnvLe.cons (.top _) (EnvLe.cons (.top _) (EnvLe.cons (.refl _) EnvLe.nil)))))))))))) ?_
        try simp only [RC, roundK_x, roundK_g, roundK_r]
        exact hN47 (_, _, _, _, x6_57, _, _, _, _, _, _) hq
  · simp only [RC, roundK_x, roundK_g, roundK_r, scopeQ, retQ, ↓reduceIte, Bool.false_eq_true]
    exact leaveP_ok ((hX _ hv).1.mono (Nat.zero_le _)) (hX _ hv).2

def glossarylaw14_PoolEntries (x0 : S_api_Message) : R (Bool) :=
  (awakeX).bind fun r11 => if r11 = true then (((glossarylaw14_message x0).sure.bind fun r34 => (glossarylaw11_Few r34).sure.bind fun r35 => if r35 = true then ((pool_Entry x0).sure.bind fun r37 => (glossaryref14_Entry x0).sure.bind fun r38 => R.ok (r37 == r38)) else (R.ok true)).bind fun x2m30 => R.ok x2m30) else (R.ok false)
theorem glossarylaw14_PoolEntries_call {h : H} {x0 : S_api_Message} {Q : Out → H → Prop} {KK : (Bool) → Prop} {X : V → Prop} (hq : (glossarylaw14_PoolEntries x0).post KK X) (hK : ∀ r, KK r → Q (.ret (.bool r)) h) (hX : ∀ v, X v → V.Cl 0 v ∧ Q (.panic v) h) : CA qprim 3 [.agg [.str x0.Name, .sl 13 (List.map S_api_Field.enc x0.Fields), .sl 11 (List.map S_api_Message.enc x0.Nested), .sl 4 (List.map S_api_Enum.enc x0.Enums), .sl 2 (List.map S_api_Range.enc x0.Ranges), .sl 13 (List.map S_api_Field.enc x0.Extends), .sl 3 (List.map S_api_Oneof.enc x0.Oneofs), .sl 2 (List.map S_api_Range.enc x0.Reserved), .sl 1 (List.map V.str x0.Words), .sl 1 (List.map byteV x0.Options), .sl 1 (List.map byteV x0.Unknown)]] h Q := by
  refine acalln hp Try.func3 rfl (by kernel_rfl) (n := 16) rfl (rs := [.tmp 2]) rfl [0, 1, 2, 4] [] true (by simp) ?_
  unfold glossarylaw14_PoolEntries at hq
  simp only [initEnv, List.map_cons, List.map_nil, List.getD_cons_zero, List.getD_cons_succ, List.getD_nil, V.demote]
  rw [wp_seq]
  refine wp_region_i (by rfl) ?_
  simp only [go_sem, ↓evs_eq, Nat.reduceAdd, ↓reduceIte, Nat.reduceEqDiff, Nat.reduceBEq, Nat.reduceBNe, Nat.reduceLT, Int.reduceToNat, Int.reduceEq, Int.reduceLT, Int.reduceLE, reduceCtorEq, Nat.reduceMul, Nat.reduceLeDiff]
  rw [wp_seq]
  rw [wp_seq]
  refine wp_region_i (by rfl) ?_
  simp only [go_sem, ↓evs_eq, Nat.reduceAdd, ↓reduceIte, Nat.reduceEqDiff, Nat.reduceBEq, Nat.reduceBNe, Nat.reduceLT, Int.reduceToNat, Int.reduceEq, Int.reduceLT, Int.reduceLE, reduceCtorEq, Nat.reduceMul, Nat.reduceLeDiff]
  obtain ⟨K51, hK52, hq⟩ := R.post_cut hq
  refine awakeX_call hq (fun r11 hq => ?_) (fun v hv => ⟨(hX v hv).1, ?_⟩)
  · replace hq := hK52 _ hq
    simp only [go_sem, ↓evs_eq, Nat.reduceAdd, ↓reduceIte, Nat.reduceEqDiff, Nat.reduceBEq, Nat.reduceBNe, Nat.reduceLT, Int.reduceToNat, Int.reduceEq, Int.reduceLT, Int.reduceLE, reduceCtorEq, Nat.reduceMul, Nat.reduceLeDiff]
    rw [wp_cond]
    simp only [go_sem, ↓evs_eq, Nat.reduceAdd, ↓reduceIte, Nat.reduceEqDiff, Nat.reduceBEq, Nat.reduceBNe, Nat.reduceLT, Int.reduceToNat, Int.reduceEq, Int.reduceLT, Int.reduceLE, reduceCtorEq, Nat.reduceMul, Nat.reduceLeDiff]
    by_cases hc12 : r11 = true
    · replace hq := (R.post_if hq).1 hc12
      refine condK_f (congrArg (fun b => V.bool (!b)) (hc12)) ?_
      try simp only [wp_skip, RC, roundK_x, roundK_g, roundK_r]
      refine Wk.same ?_
      try simp only [RC, roundK_x, roundK_g, roundK_r]
      obtain ⟨K31, hK32, hq⟩ := R.post_cut hq
      refine seq_gen (acall_mono hp) (σ := Bool) (fun s => [(0, .agg [.str x0.Name, .sl 13 (List.map S_api_Field.enc x0.Fields), .sl 11 (List.map S_api_Message.enc x0.Nested), .sl 4 (List.map S_api_Enum.enc x0.Enums), .sl 2 (List.map S_api_Range.enc x0.Ranges), .sl 13 (List.map S_api_Field.enc x0.Extends), .sl 3 (List.map S_api_Oneof.enc x0.Oneofs), .sl 2 (List.map S_api_Range.enc x0.Reserved), .sl 1 (List.map V.str x0.Words), .sl 1 (List.map byteV x0.Options), .sl 1 (List.map byteV x0.Unknown)]), (1, .ref h.length 0), (2, .bool s), (4, .bool (!r11))]) (fun s => h ++ [.cells 30 [.str x0.Name, .sl 13 (List.map S_api_Field.enc x0.Fields), .sl 11 (List.map S_api_Message.enc x0.Nested), .sl 4 (List.map S_api_Enum.enc x0.Enums), .sl 2 (List.map S_api_Range.enc x0.Ranges), .sl 13 (List.map S_api_Field.enc x0.Extends), .sl 3 (List.map S_api_Oneof.enc x0.Oneofs), .sl 2 (List.map S_api_Range.enc x0.Reserved), .sl 1 (List.map V.str x0.Words), .sl 1 (List.map byteV x0.Options), .sl 1 (List.map byteV x0.Unknown)]]) (fun s => K31 s) (fun x2m30 hq => ?_) (fun N hN33 => ?_)
      · replace hq := hK32 _ hq
        try dsimp only at hq ⊢
        rw [wp_ret]
        simp only [retQ, results, resultAll, resultOne, Nat.zero_add, scopeQ, go_sem, ↓evs_eq, Nat.reduceAdd, ↓reduceIte, Nat.reduceEqDiff, Nat.reduceBEq, Nat.reduceBNe, Nat.reduceLT, Int.reduceToNat, Int.reduceEq, Int.reduceLT, Int.reduceLE, reduceCtorEq, Nat.reduceMul, Nat.reduceLeDiff]
        refine ⟨_, (.refl _), ?_⟩
        refine leave_ok rfl (.bool _) ?_
        first | exact hK _ hq | (have hz_ := hK _ hq; simp only [List.map_cons, List.map_nil, go_sem, ↓evs_eq, Nat.reduceAdd, ↓reduceIte, Nat.reduceEqDiff, Nat.reduceBEq, Nat.reduceBNe, Nat.reduceLT, Int.reduceToNat, Int.reduceEq, Int.reduceLT, Int.reduceLE, reduceCtorEq, Nat.reduceMul, Nat.reduceLeDiff] at hz_ ⊢; exact hz_)
      · refine wp_draw (acall_mono hp) (by kernel_rfl) (by rfl) ?_
        simp only [go_sem, ↓evs_eq, Nat.reduceAdd, ↓reduceIte, Nat.reduceEqDiff, Nat.reduceBEq, Nat.reduceBNe, Nat.reduceLT, Int.reduceToNat, Int.reduceEq, Int.reduceLT, Int.reduceLE, reduceCtorEq, Nat.reduceMul, Nat.reduceLeDiff]
        obtain ⟨K48, hK49, hq⟩ := R.post_cut_sure hq
        obtain ⟨r34, hr50, hq⟩ := R.post_okf hq
        refine ⟨.agg [.str r34.Name, .str r34.Package, .sl 1 (List.map V.str r34.Deps), .sl 1 (List.map (V.int .i64) r34.Public), .sl 11 (List.map S_api_Message.enc r34.Messages), .sl 4 (List.map S_api_Enum.enc r34.Enums), .sl 4 (List.map S_api_Service.enc r34.Services), .sl 13 (List.map S_api_Field.enc r34.Extends), .str r34.Syntax, .sl 1 (List.map byteV r34.Options), .sl 1 (List.map byteV r34.Unknown)], fun Q hQ => glossarylaw14_message_call (x0 := x0) (KK := fun a => a = r34) (X := fun _ => False) (by rw [hr50]; exact rfl) (fun a ha => by subst ha; exact hQ) (fun v hv => hv.elim), ?_⟩
        replace hq := hK49 _ hq
        simp only [go_sem, ↓evs_eq, Nat.reduceAdd, ↓reduceIte, Nat.reduceEqDiff, Nat.reduceBEq, Nat.reduceBNe, Nat.reduceLT, Int.reduceToNat, Int.reduceEq, Int.reduceLT, Int.reduceLE, reduceCtorEq, Nat.reduceMul, Nat.reduceLeDiff]
        obtain ⟨K45, hK46, hq⟩ := R.post_cut_sure hq
        obtain ⟨r35, hr47, hq⟩ := R.post_okf hq
        refine ⟨.bool r35, fun Q hQ => glossarylaw11_Few_call (x0 := r34) (KK := fun a => a = r35) (X := fun _ => False) (by rw [hr47]; exact rfl) (fun a ha => by subst ha; exact hQ) (fun v hv => hv.elim), ?_⟩
        replace hq := hK46 _ hq
        simp only [go_sem, ↓evs_eq, Nat.reduceAdd, ↓reduceIte, Nat.reduceEqDiff, Nat.reduceBEq, Nat.reduceBNe, Nat.reduceLT, Int.reduceToNat, Int.reduceEq, Int.reduceLT, Int.reduceLE, reduceCtorEq, Nat.reduceMul, Nat.reduceLeDiff]
        by_cases hc36 : r35 = true
        · replace hq := (R.post_if hq).1 hc36
          simp only [hc36, go_sem, ↓evs_eq, Nat.reduceAdd, ↓reduceIte, Nat.reduceEqDiff, Nat.reduceBEq, Nat.reduceBNe, Nat.reduceLT, Int.reduceToNat, Int.reduceEq, Int.reduceLT, Int.reduceLE, reduceCtorEq, Nat.reduceMul, Nat.reduceLeDiff]
          obtain ⟨K42, hK43, hq⟩ := R.post_cut_sure hq
          obtain ⟨r37, hr44, hq⟩ := R.post_okf hq
          refine ⟨.bool r37, fun Q hQ => pool_Entry_call (x0 := x0) (KK := fun a => a = r37) (X := fun _ => False) (by rw [hr44]; exact rfl) (fun a ha => by subst ha; exact hQ) (fun v hv => hv.elim), ?_⟩
          replace hq := hK43 _ hq
          simp only [go_sem, ↓evs_eq, Nat.reduceAdd, ↓reduceIte, Nat.reduceEqDiff, Nat.reduceBEq, Nat.reduceBNe, Nat.reduceLT, Int.reduceToNat, Int.reduceEq, Int.reduceLT, Int.reduceLE, reduceCtorEq, Nat.reduceMul, Nat.reduceLeDiff]
          obtain ⟨K39, hK40, hq⟩ := R.post_cut_sure hq
          obtain ⟨r38, hr41, hq⟩ := R.post_okf hq
          refine ⟨.bool r38, fun Q hQ => glossaryref14_Entry_call (x0 := x0) (KK := fun a => a = r38) (X := fun _ => False) (by rw [hr41]; exact rfl) (fun a ha => by subst ha; exact hQ) (fun v hv => hv.elim), ?_⟩
          replace hq := hK40 _ hq
          simp only [go_sem, ↓evs_eq, Nat.reduceAdd, ↓reduceIte, Nat.reduceEqDiff, Nat.reduceBEq, Nat.reduceBNe, Nat.reduceLT, Int.reduceToNat, Int.reduceEq, Int.reduceLT, Int.reduceLE, reduceCtorEq, Nat.reduceMul, Nat.reduceLeDiff]
          exact hN33 (r37 == r38) hq
        · replace hq := (R.post_if hq).2 hc36
          replace hc36 := eq_false_of_ne_true hc36
          simp only [hc36, go_sem, ↓evs_eq, Nat.reduceAdd, ↓reduceIte, Nat.reduceEqDiff, Nat.reduceBEq, Nat.reduceBNe, Nat.reduceLT, Int.reduceToNat, Int.reduceEq, Int.reduceLT, Int.reduceLE, reduceCtorEq, Nat.reduceMul, Nat.reduceLeDiff]
          exact hN33 true hq
    · replace hq := (R.post_if hq).2 hc12
      replace hc12 := eq_false_of_ne_true hc12
      refine condK_t (congrArg (fun b => V.bool (!b)) (hc12)) ?_
      rw [wp_seq]
      refine wp_region_i (by rfl) ?_
      simp only [go_sem, ↓evs_eq, Nat.reduceAdd, ↓reduceIte, Nat.reduceEqDiff, Nat.reduceBEq, Nat.reduceBNe, Nat.reduceLT, Int.reduceToNat, Int.reduceEq, Int.reduceLT, Int.reduceLE, reduceCtorEq, Nat.reduceMul, Nat.reduceLeDiff]
      rw [wp_ret]
      simp only [retQ, results, resultAll, resultOne, Nat.zero_add, scopeQ, go_sem, ↓evs_eq, Nat.reduceAdd, ↓reduceIte, Nat.reduceEqDiff, Nat.reduceBEq, Nat.reduceBNe, Nat.reduceLT, Int.reduceToNat, Int.reduceEq, Int.reduceLT, Int.reduceLE, reduceCtorEq, Nat.reduceMul, Nat.reduceLeDiff]
      refine ⟨_, (.refl _), ?_⟩
      refine leave_ok rfl (.bool _) ?_
      first | exact hK _ hq | (have hz_ := hK _ hq; simp only [List.map_cons, List.map_nil, go_sem, ↓evs_eq, Nat.reduceAdd, ↓reduceIte, Nat.reduceEqDiff, Nat.reduceBEq, Nat.reduceBNe, Nat.reduceLT, Int.reduceToNat, Int.reduceEq, Int.reduceLT, Int.reduceLE, reduceCtorEq, Nat.reduceMul, Nat.reduceLeDiff] at hz_ ⊢; exact hz_)
  · simp only [RC, roundK_x, roundK_g, roundK_r, scopeQ, retQ, ↓reduceIte, Bool.false_eq_true]
    exact leaveP_ok ((hX _ hv).1.mono (Nat.zero_le _)) (hX _ hv).2
end Go.Proofs.Ytpbnnbjkjaajnaa.Pv
