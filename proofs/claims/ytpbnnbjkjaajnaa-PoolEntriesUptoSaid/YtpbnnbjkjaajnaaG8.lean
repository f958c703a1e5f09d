/- Functions of the program, as plain Lean functions, and that the code comes to them: printed by gen.py. Functions of the program, as plain Lean functions, and that the code comes to them: printed by gen.py. -/
import Derived.Test.YtpbnnbjkjaajnaaG0
set_option linter.unusedVariables false
set_option linter.unusedSimpArgs false
set_option maxHeartbeats 4000000
set_option maxRecDepth 10000
namespace Go.Proofs.Ytpbnnbjkjaajnaa.Pv
open Go Go.Proofs

attribute [local go_sem] RC RL RM roundK_x roundK_g roundK_r loadN V.slz V.slz1 lnB V.left V.lenOf slice3 sliceNil Option.getD_none Option.getD_some sliceOp cut upon_each nextM entryOp buildOk lookup lookV update elemOf Option.isSome_map unOp wanted aop tkB rwB neD Env.get Env.put Env.keep putD dstOk ev constV nilSlice V.demote V.toOwn V.asOwn V.cells tyE R1.res binOp isShift binOpT isC intOp strOp shiftOp byteV index indexAddr slice bounds hiB loB withB maxV minV evs pickV lenV builtin initEnv convert K.isU8 strOf load store fieldOf append appT fltOp cpxV realV imagV toInt rangeOp nextOp room fill placeOf splice repl chunks Ty.val Ty.agg V.plain H.row H.ety AObj.row putAll demEnv updH S_api_Message.enc_eq S_api_Field.enc S_api_Enum.enc S_api_Value.enc S_api_Range.enc S_api_Oneof.enc S_api_File.enc S_api_Service.enc S_api_Method.enc S_api_Raw.enc
def glossarylaw14_message (x0 : S_api_Message) : R (S_api_File) :=
  R.ok (S_api_File.mk [] [] [] [] ([x0]) [] [] [] [] [] [])
theorem glossarylaw14_message_call {h : H} {x0 : S_api_Message} {Q : Out → H → Prop} {KK : (S_api_File) → Prop} {X : V → Prop} (hq : (glossarylaw14_message x0).post KK X) (hK : ∀ r, KK r → Q (.ret (.agg [.str r.Name, .str r.Package, .sl 1 (List.map V.str r.Deps), .sl 1 (List.map (V.int .i64) r.Public), .sl 11 (List.map S_api_Message.enc r.Messages), .sl 4 (List.map S_api_Enum.enc r.Enums), .sl 4 (List.map S_api_Service.enc r.Services), .sl 13 (List.map S_api_Field.enc r.Extends), .str r.Syntax, .sl 1 (List.map byteV r.Options), .sl 1 (List.map byteV r.Unknown)])) h) (hX : ∀ v, X v → V.Cl 0 v ∧ Q (.panic v) h) : CA qprim 7 [.agg [.str x0.Name, .sl 13 (List.map S_api_Field.enc x0.Fields), .sl 11 (List.map S_api_Message.enc x0.Nested), .sl 4 (List.map S_api_Enum.enc x0.Enums), .sl 2 (List.map S_api_Range.enc x0.Ranges), .sl 13 (List.map S_api_Field.enc x0.Extends), .sl 3 (List.map S_api_Oneof.enc x0.Oneofs), .sl 2 (List.map S_api_Range.enc x0.Reserved), .sl 1 (List.map V.str x0.Words), .sl 1 (List.map byteV x0.Options), .sl 1 (List.map byteV x0.Unknown)]] h Q := by
  refine acalln hp Try.func7 rfl (by kernel_rfl) (n := 6) rfl (rs := [.cell 2 36]) rfl [0, 1, 2] [] true (by simp) ?_
  unfold glossarylaw14_message at hq
  simp only [initEnv, List.map_cons, List.map_nil, List.getD_cons_zero, List.getD_cons_succ, List.getD_nil, V.demote]
  rw [wp_seq]
  refine wp_region_i (by rfl) ?_
  simp only [go_sem, ↓evs_eq, Nat.reduceAdd, ↓reduceIte, Nat.reduceEqDiff, Nat.reduceBEq, Nat.reduceBNe, Nat.reduceLT, Int.reduceToNat, Int.reduceEq, Int.reduceLT, Int.reduceLE, reduceCtorEq, Nat.reduceMul, Nat.reduceLeDiff]
  rw [wp_seq]
  refine wp_region_i (by rfl) ?_
  simp only [go_sem, ↓evs_eq, Nat.reduceAdd, ↓reduceIte, Nat.reduceEqDiff, Nat.reduceBEq, Nat.reduceBNe, Nat.reduceLT, Int.reduceToNat, Int.reduceEq, Int.reduceLT, Int.reduceLE, reduceCtorEq, Nat.reduceMul, Nat.reduceLeDiff]
  rw [wp_ret]
  simp only [retQ, results, resultAll, resultOne, Nat.zero_add, scopeQ, go_sem, ↓evs_eq, Nat.reduceAdd, ↓reduceIte, Nat.reduceEqDiff, Nat.reduceBEq, Nat.reduceBNe, Nat.reduceLT, Int.reduceToNat, Int.reduceEq, Int.reduceLT, Int.reduceLE, reduceCtorEq, Nat.reduceMul, Nat.reduceLeDiff]
  refine ⟨_, (.agg _ _ (LLe.cons (.refl _) (LLe.cons (.refl _) (LLe.cons (.nsl _ _) (LLe.cons (.nsl _ _) (LLe.cons (.refl _) (LLe.cons (.nsl _ _) (LLe.cons (.nsl _ _) (LLe.cons (.nsl _ _) (LLe.cons (.refl _) (LLe.cons (.nsl _ _) (LLe.cons (.nsl _ _) LLe.nil))))))))))).1 (LLe.cons (.refl _) (LLe.cons (.refl _) (LLe.cons (.nsl _ _) (LLe.cons (.nsl _ _) (LLe.cons (.refl _) (LLe.cons (.nsl _ _) (LLe.cons (.nsl _ _) (LLe.cons (.nsl _ _) (LLe.cons (.refl _) (LLe.cons (.nsl _ _) (LLe.cons (.nsl _ _) LLe.nil))))))))))).2), ?_⟩
  refine leave_ok rfl (.agg _ (cl_cons (.str _) (cl_cons (.str _) (cl_cons (.sl _ _ cl_nil) (cl_cons (.sl _ _ cl_nil) (cl_cons (.sl _ _ (cl_cons (.agg _ (cl_cons (.str _) (cl_cons (.sl _ _ (cl_map (S_api_Field.cl _))) (cl_cons (.sl _ _ (cl_map (S_api_Message.cl _))) (cl_cons (.sl _ _ (cl_map (S_api_Enum.cl _))) (cl_cons (.sl _ _ (cl_map (S_api_Range.cl _))) (cl_cons (.sl _ _ (cl_map (S_api_Field.cl _))) (cl_cons (.sl _ _ (cl_map (S_api_Oneof.cl _))) (cl_cons (.sl _ _ (cl_map (S_api_Range.cl _))) (cl_cons (.sl _ _ (cl_map (fun x => .str _))) (cl_cons (.sl _ _ (cl_map (fun x => cl_byte x))) (cl_cons (.sl _ _ (cl_map (fun x => cl_byte x))) cl_nil)))))))))))) cl_nil)) (cl_cons (.sl _ _ cl_nil) (cl_cons (.sl _ _ cl_nil) (cl_cons (.sl _ _ cl_nil) (cl_cons (.str _) (cl_cons (.sl _ _ cl_nil) (cl_cons (.sl _ _ cl_nil) cl_nil)))))))))))) ?_
  first | exact hK _ hq | (have hz_ := hK _ hq; simp only [List.map_cons, List.map_nil, go_sem, ↓evs_eq, Nat.reduceAdd, ↓reduceIte, Nat.reduceEqDiff, Nat.reduceBEq, Nat.reduceBNe, Nat.reduceLT, Int.reduceToNat, Int.reduceEq, Int.reduceLT, Int.reduceLE, reduceCtorEq, Nat.reduceMul, Nat.reduceLeDiff] at hz_ ⊢; exact hz_)

def glossarylaw11_count_j0 (x1_69 : Int) : R (Int) :=
  R.ok x1_69
def glossarylaw11_count_l1 (self_glossarylaw11_count : List S_api_Message → Int → Int → R (Int)) (x0 : List S_api_Message) (x2 : Int) : Nat → Int → Int → R ((Int) ⊕ (Int))
  | 0, _, _ => R.stuck
  | k + 1, x1_86, x13_86 => if x13_86 < (List.length x0 : Int) then (if 0 ≤ x13_86 ∧ x13_86 < (List.length x0 : Int) then ((if (100 : Int) < (IntKind.wrap .i64 (x1_86 + 1)) then (R.ok true) else (R.ok (decide ((100 : Int) < (IntKind.wrap .i64 ((IntKind.wrap .i64 ((IntKind.wrap .i64 ((IntKind.wrap .i64 ((IntKind.wrap .i64 ((IntKind.wrap .i64 ((List.length ((gt x0 x13_86).Fields) : Int) + (List.length ((gt x0 x13_86).Extends) : Int))) + (List.length ((gt x0 x13_86).Enums) : Int))) + (List.length ((gt x0 x13_86).Oneofs) : Int))) + (List.length ((gt x0 x13_86).Ranges) : Int))) + (List.length ((gt x0 x13_86).Reserved) : Int))) + (List.length ((gt x0 x13_86).Words) : Int))))))).bind fun x50m110 => if x50m110 = true then (R.ok (.inr 1000)) else ((self_glossarylaw11_count ((gt x0 x13_86).Nested) (IntKind.wrap .i64 (x1_86 + 1)) (IntKind.wrap .i64 (x2 + 1))).bind fun r119 => glossarylaw11_count_l1 self_glossarylaw11_count x0 x2 k r119 (IntKind.wrap .i64 (x13_86 + 1)))) else R.stuck) else (R.ok (.inl x1_86))
def glossarylaw11_count_b (self_glossarylaw11_count : List S_api_Message → Int → Int → R (Int)) (x0 : List S_api_Message) (x1 : Int) (x2 : Int) : R (Int) :=
  if (70 : Int) < x2 then (R.ok 1000) else ((glossarylaw11_count_l1 self_glossarylaw11_count x0 x2 Many x1 0).bind fun | (.inl x1p123) => glossarylaw11_count_j0 x1p123 | (.inr rp124) => R.ok rp124)
def glossarylaw11_count_n : Nat → List S_api_Message → Int → Int → R (Int)
  | 0 => fun _ _ _ => R.stuck
  | k + 1 => glossarylaw11_count_b (glossarylaw11_count_n k)
def glossarylaw11_count (x0 : List S_api_Message) (x1 : Int) (x2 : Int) : R (Int) := glossarylaw11_count_n Many x0 x1 x2
theorem glossarylaw11_count_b_call {self_glossarylaw11_count : List S_api_Message → Int → Int → R (Int)} (ih_glossarylaw11_count : ∀ {h : H} {x0 : List S_api_Message} {x1 : Int} {x2 : Int} {Q : Out → H → Prop} {KK : (Int) → Prop} {X : V → Prop} (hq : (self_glossarylaw11_count x0 x1 x2).post KK X) (hK : ∀ r, KK r → Q (.ret (.int .i64 r)) h) (hX : ∀ v, X v → V.Cl 0 v ∧ Q (.panic v) h), CA qprim 20 [.sl 11 (List.map S_api_Message.enc x0), .int .i64 x1, .int .i64 x2] h Q) {h : H} {x0 : List S_api_Message} {x1 : Int} {x2 : Int} {Q : Out → H → Prop} {KK : (Int) → Prop} {X : V → Prop} (hq : (glossarylaw11_count_b self_glossarylaw11_count x0 x1 x2).post KK X) (hK : ∀ r, KK r → Q (.ret (.int .i64 r)) h) (hX : ∀ v, X v → V.Cl 0 v ∧ Q (.panic v) h) : CA qprim 20 [.sl 11 (List.map S_api_Message.enc x0), .int .i64 x1, .int .i64 x2] h Q := by
  refine acalln hp Try.func20 rfl (by kernel_rfl) (n := 59) rfl (rs := [.tmp 6]) rfl [0, 1, 2, 6, 8, 10, 11, 12, 13, 14, 50] [] true (by simp) ?_
  unfold glossarylaw11_count_b at hq
  simp only [initEnv, List.map_cons, List.map_nil, List.getD_cons_zero, List.getD_cons_succ, List.getD_nil, V.demote]
  rw [wp_seq]
  refine wp_region_i (by rfl) ?_
  simp only [go_sem, ↓evs_eq, Nat.reduceAdd, ↓reduceIte, Nat.reduceEqDiff, Nat.reduceBEq, Nat.reduceBNe, Nat.reduceLT, Int.reduceToNat, Int.reduceEq, Int.reduceLT, Int.reduceLE, reduceCtorEq, Nat.reduceMul, Nat.reduceLeDiff]
  rw [wp_seq]
  rw [wp_seq]
  refine wp_region_i (by rfl) ?_
  simp only [go_sem, ↓evs_eq, Nat.reduceAdd, ↓reduceIte, Nat.reduceEqDiff, Nat.reduceBEq, Nat.reduceBNe, Nat.reduceLT, Int.reduceToNat, Int.reduceEq, Int.reduceLT, Int.reduceLE, reduceCtorEq, Nat.reduceMul, Nat.reduceLeDiff]
  rw [wp_cond]
  simp only [go_sem, ↓evs_eq, Nat.reduceAdd, ↓reduceIte, Nat.reduceEqDiff, Nat.reduceBEq, Nat.reduceBNe, Nat.reduceLT, Int.reduceToNat, Int.reduceEq, Int.reduceLT, Int.reduceLE, reduceCtorEq, Nat.reduceMul, Nat.reduceLeDiff]
  by_cases hc2 : (70 : Int) < x2
  · replace hq := (R.post_if hq).1 hc2
    refine condK_t (congrArg V.bool (decide_eq_true hc2)) ?_
    rw [wp_seq]
    refine wp_region_i (by rfl) ?_
    simp only [go_sem, ↓evs_eq, Nat.reduceAdd, ↓reduceIte, Nat.reduceEqDiff, Nat.reduceBEq, Nat.reduceBNe, Nat.reduceLT, Int.reduceToNat, Int.reduceEq, Int.reduceLT, Int.reduceLE, reduceCtorEq, Nat.reduceMul, Nat.reduceLeDiff]
    rw [wp_ret]
    simp only [retQ, results, resultAll, resultOne, Nat.zero_add, scopeQ, go_sem, ↓evs_eq, Nat.reduceAdd, ↓reduceIte, Nat.reduceEqDiff, Nat.reduceBEq, Nat.reduceBNe, Nat.reduceLT, Int.reduceToNat, Int.reduceEq, Int.reduceLT, Int.reduceLE, reduceCtorEq, Nat.reduceMul, Nat.reduceLeDiff]
    refine ⟨_, (.refl _), ?_⟩
    refine leave_ok0 rfl (.int _ _) ?_
    first | exact hK _ hq | (have hz_ := hK _ hq; simp only [List.map_cons, List.map_nil, go_sem, ↓evs_eq, Nat.reduceAdd, ↓reduceIte, Nat.reduceEqDiff, Nat.reduceBEq, Nat.reduceBNe, Nat.reduceLT, Int.reduceToNat, Int.reduceEq, Int.reduceLT, Int.reduceLE, reduceCtorEq, Nat.reduceMul, Nat.reduceLeDiff] at hz_ ⊢; exact hz_)
  · replace hq := (R.post_if hq).2 hc2
    refine condK_f (congrArg V.bool (decide_eq_false hc2)) ?_
    try simp only [wp_skip, RC, roundK_x, roundK_g, roundK_r]
    refine Wk.same ?_
    try simp only [RC, roundK_x, roundK_g, roundK_r]
    refine seq_gen (acall_mono hp) (σ := V × Int × V × V × V × V × V × V × V × V) (fun s => [(0, s.1), (1, .int .i64 s.2.1), (2, .int .i64 x2), (6, s.2.2.1), (8, s.2.2.2.1), (10, s.2.2.2.2.1), (11, s.2.2.2.2.2.1), (12, s.2.2.2.2.2.2.1), (13, s.2.2.2.2.2.2.2.1), (14, s.2.2.2.2.2.2.2.2.1), (50, s.2.2.2.2.2.2.2.2.2)]) (fun s => h) (fun s => (glossarylaw11_count_j0 s.2.1).post KK X) (fun s hq => ?_) (fun N hN70 => ?_)
    · obtain ⟨y0_69, x1_69, y6_69, y8_69, y10_69, y11_69, y12_69, y13_69, y14_69, y50_69⟩ := s
      try dsimp only at hq ⊢
      unfold glossarylaw11_count_j0 at hq
      rw [wp_seq]
      refine wp_region_i (by rfl) ?_
      simp only [go_sem, ↓evs_eq, Nat.reduceAdd, ↓reduceIte, Nat.reduceEqDiff, Nat.reduceBEq, Nat.reduceBNe, Nat.reduceLT, Int.reduceToNat, Int.reduceEq, Int.reduceLT, Int.reduceLE, reduceCtorEq, Nat.reduceMul, Nat.reduceLeDiff]
      rw [wp_ret]
      simp only [retQ, results, resultAll, resultOne, Nat.zero_add, scopeQ, go_sem, ↓evs_eq, Nat.reduceAdd, ↓reduceIte, Nat.reduceEqDiff, Nat.reduceBEq, Nat.reduceBNe, Nat.reduceLT, Int.reduceToNat, Int.reduceEq, Int.reduceLT, Int.reduceLE, reduceCtorEq, Nat.reduceMul, Nat.reduceLeDiff]
      refine ⟨_, (.refl _), ?_⟩
      refine leave_ok0 rfl (.int _ _) ?_
      first | exact hK _ hq | (have hz_ := hK _ hq; simp only [List.map_cons, List.map_nil, go_sem, ↓evs_eq, Nat.reduceAdd, ↓reduceIte, Nat.reduceEqDiff, Nat.reduceBEq, Nat.reduceBNe, Nat.reduceLT, Int.reduceToNat, Int.reduceEq, Int.reduceLT, Int.reduceLE, reduceCtorEq, Nat.reduceMul, Nat.reduceLeDiff] at hz_ ⊢; exact hz_)
    · rw [wp_seq]
      refine wp_region_i (by rfl) ?_
      simp only [go_sem, ↓evs_eq, Nat.reduceAdd, ↓reduceIte, Nat.reduceEqDiff, Nat.reduceBEq, Nat.reduceBNe, Nat.reduceLT, Int.reduceToNat, Int.reduceEq, Int.reduceLT, Int.reduceLE, reduceCtorEq, Nat.reduceMul, Nat.reduceLeDiff]
      rw [wp_block]
      refine loop_in ?_
      refine Wk.le (EnvLe.cons (.top _) (EnvLe.cons (.refl _) (EnvLe.cons (.refl _) (EnvLe.cons (.top _) (EnvLe.cons (.refl _) (EnvLe.cons (.top _) (EnvLe.cons (.refl _) (EnvLe.cons (.refl _) (EnvLe.cons (.refl _) (EnvLe.cons (.refl _) (EnvLe.cons (.refl _) EnvLe.nil))))))))))) ?_
      obtain ⟨K101, hK102, hq⟩ := R.post_cut hq
      refine loop_gen (acall_mono hp) (σ := V × Int × V × V × V × Int × V × V) (fun s => [(0, s.1), (1, .int .i64 s.2.1), (2, .int .i64 x2), (6, s.2.2.1), (8, s.2.2.2.1), (10, s.2.2.2.2.1), (11, .sl 11 (List.map S_api_Message.enc x0)), (12, .int .i64 (List.length x0 : Int)), (13, .int .i64 s.2.2.2.2.2.1), (14, s.2.2.2.2.2.2.1), (50, s.2.2.2.2.2.2.2)]) (fun s => h) (fun k s => (glossarylaw11_count_l1 self_glossarylaw11_count x0 x2 k s.2.1 s.2.2.2.2.2.1).post K101 X) (fun s hs => hs) (fun k122 s hq N hN103 => ?_) _ (_, x1, _, _, _, 0, _, _) hq
      obtain ⟨y0_86, x1_86, y6_86, y8_86, y10_86, x13_86, y14_86, y50_86⟩ := s
      try dsimp only at hq ⊢
      rw [glossarylaw11_count_l1] at hq
      rw [wp_seq]
      refine wp_region_i (by rfl) ?_
      simp only [go_sem, ↓evs_eq, Nat.reduceAdd, ↓reduceIte, Nat.reduceEqDiff, Nat.reduceBEq, Nat.reduceBNe, Nat.reduceLT, Int.reduceToNat, Int.reduceEq, Int.reduceLT, Int.reduceLE, reduceCtorEq, Nat.reduceMul, Nat.reduceLeDiff]
      rw [wp_seq]
      rw [wp_cond]
      simp only [go_sem, ↓evs_eq, Nat.reduceAdd, ↓reduceIte, Nat.reduceEqDiff, Nat.reduceBEq, Nat.reduceBNe, Nat.reduceLT, Int.reduceToNat, Int.reduceEq, Int.reduceLT, Int.reduceLE, reduceCtorEq, Nat.reduceMul, Nat.reduceLeDiff]
      by_cases hc104 : x13_86 < (List.length x0 : Int)
      · replace hq := (R.post_if hq).1 hc104
        refine condK_t (congrArg V.bool (decide_eq_true hc104)) ?_
        try simp only [wp_skip, RC, roundK_x, roundK_g, roundK_r]
        refine Wk.same ?_
        try simp only [RC, roundK_x, roundK_g, roundK_r]
        rw [wp_seq]
        rw [wp_block]
        rw [wp_seq]
        refine wp_region_i (by rfl) ?_
        obtain ⟨g107, hq⟩ := R.guard hq
        have e108 := map_gt (f := S_api_Message.enc) (l := x0) (i := x13_86) g107
        simp only [e108, go_sem, ↓evs_eq, Nat.reduceAdd, ↓reduceIte, Nat.reduceEqDiff, Nat.reduceBEq, Nat.reduceBNe, Nat.reduceLT, Int.reduceToNat, Int.reduceEq, Int.reduceLT, Int.reduceLE, reduceCtorEq, Nat.reduceMul, Nat.reduceLeDiff]
        repeat (with_reducible refine And.intro (by first | omega | assumption) ?_)
        rw [wp_seq]
        refine wp_region_i (by rfl) ?_
        simp only [go_sem, ↓evs_eq, Nat.reduceAdd, ↓reduceIte, Nat.reduceEqDiff, Nat.reduceBEq, Nat.reduceBNe, Nat.reduceLT, Int.reduceToNat, Int.reduceEq, Int.reduceLT, Int.reduceLE, reduceCtorEq, Nat.reduceMul, Nat.reduceLeDiff]
        rw [wp_seq]
        obtain ⟨K111, hK112, hq⟩ := R.post_cut hq
        refine seq_gen (acall_mono hp) (σ := Bool) (fun s => [(0, y0_86), (1, .int .i64 (IntKind.wrap .i64 (x1_86 + 1))), (2, .int .i64 x2), (6, y6_86), (8, .ref h.length 0), (10, y10_86), (11, .sl 11 (List.map S_api_Message.enc x0)), (12, .int .i64 (List.length x0 : Int)), (13, .int .i64 x13_86), (14, .bool (decide (x13_86 < (List.length x0 : Int)))), (50, .bool s)]) (fun s => h ++ [.cells 30 [.str (gt x0 x13_86).Name, .sl 13 (List.map S_api_Field.enc (gt x0 x13_86).Fields), .sl 11 (List.map S_api_Message.enc (gt x0 x13_86).Nested), .sl 4 (List.map S_api_Enum.enc (gt x0 x13_86).Enums), .sl 2 (List.map S_api_Range.enc (gt x0 x13_86).Ranges), .sl 13 (List.map S_api_Field.enc (gt x0 x13_86).Extends), .sl 3 (List.map S_api_Oneof.enc (gt x0 x13_86).Oneofs), .sl 2 (List.map S_api_Range.enc (gt x0 x13_86).Reserved), .sl 1 (List.map V.str (gt x0 x13_86).Words), .sl 1 (List.map byteV (gt x0 x13_86).Options), .sl 1 (List.map byteV (gt x0 x13_86).Unknown)]]) (fun s => K111 s) (fun x50m110 hq => ?_) (fun N hN113 => ?_)
        · replace hq := hK112 _ hq
          try dsimp only at hq ⊢
          rw [wp_cond]
          simp only [go_sem, ↓evs_eq, Nat.reduceAdd, ↓reduceIte, Nat.reduceEqDiff, Nat.reduceBEq, Nat.reduceBNe, Nat.reduceLT, Int.reduceToNat, Int.reduceEq, Int.reduceLT, Int.reduceLE, reduceCtorEq, Nat.reduceMul, Nat.reduceLeDiff]
          by_cases hc115 : x50m110 = true
          · replace hq := (R.post_if hq).1 hc115
            refine condK_t (congrArg V.bool (hc115)) ?_
            rw [wp_seq]
            refine wp_region_i (by rfl) ?_
            simp only [go_sem, ↓evs_eq, Nat.reduceAdd, ↓reduceIte, Nat.reduceEqDiff, Nat.reduceBEq, Nat.reduceBNe, Nat.reduceLT, Int.reduceToNat, Int.reduceEq, Int.reduceLT, Int.reduceLE, reduceCtorEq, Nat.reduceMul, Nat.reduceLeDiff]
            rw [wp_ret]
            simp only [retQ, results, resultAll, resultOne, Nat.zero_add, scopeQ, go_sem, ↓evs_eq, Nat.reduceAdd, ↓reduceIte, Nat.reduceEqDiff, Nat.reduceBEq, Nat.reduceBNe, Nat.reduceLT, Int.reduceToNat, Int.reduceEq, Int.reduceLT, Int.reduceLE, reduceCtorEq, Nat.reduceMul, Nat.reduceLeDiff]
            refine ⟨_, (.refl _), ?_⟩
            refine leave_ok rfl (.int _ _) ?_
            replace hq := hK102 _ hq
            first | exact hK _ hq | (have hz_ := hK _ hq; simp only [List.map_cons, List.map_nil, go_sem, ↓evs_eq, Nat.reduceAdd, ↓reduceIte, Nat.reduceEqDiff, Nat.reduceBEq, Nat.reduceBNe, Nat.reduceLT, Int.reduceToNat, Int.reduceEq, Int.reduceLT, Int.reduceLE, reduceCtorEq, Nat.reduceMul, Nat.reduceLeDiff] at hz_ ⊢; exact hz_)
          · replace hq := (R.post_if hq).2 hc115
            replace hc115 := eq_false_of_ne_true hc115
            refine condK_f (congrArg V.bool (hc115)) ?_
            try simp only [wp_skip, RC, roundK_x, roundK_g, roundK_r]
            refine Wk.same ?_
            try simp only [RC, roundK_x, roundK_g, roundK_r]
            refine wp_region_i (by rfl) ?_
            simp only [go_sem, ↓evs_eq, Nat.reduceAdd, ↓reduceIte, Nat.reduceEqDiff, Nat.reduceBEq, Nat.reduceBNe, Nat.reduceLT, Int.reduceToNat, Int.reduceEq, Int.reduceLT, Int.reduceLE, reduceCtorEq, Nat.reduceMul, Nat.reduceLeDiff]
            obtain ⟨K120, hK121, hq⟩ := R.post_cut hq
            refine ih_glossarylaw11_count (x0 := (gt x0 x13_86).Nested) (x1 := (IntKind.wrap .i64 (x1_86 + 1))) (x2 := (IntKind.wrap .i64 (x2 + 1))) hq (fun r119 hq => ?_) (fun v hv => ⟨(hX v hv).1, ?_⟩)
            · replace hq := hK121 _ hq
              simp only [go_sem, ↓evs_eq, Nat.reduceAdd, ↓reduceIte, Nat.reduceEqDiff, Nat.reduceBEq, Nat.reduceBNe, Nat.reduceLT, Int.reduceToNat, Int.reduceEq, Int.reduceLT, Int.reduceLE, reduceCtorEq, Nat.reduceMul, Nat.reduceLeDiff]
              refine Wk.drop0 (by rfl) (EnvLe.cons (.top _) (EnvLe.cons (.refl _) (EnvLe.cons (.refl _) (EnvLe.cons (.top _) (EnvLe.cons (.top _) (EnvLe.cons (.top _) (EnvLe.cons (.refl _) (EnvLe.cons (.refl _) (EnvLe.cons (.refl _) (EnvLe.cons (.top _) (EnvLe.cons (.top _) EnvLe.nil))))))))))) (EnvCl.cons .top (EnvCl.cons (.int _ _) (EnvCl.cons (.int _ _) (EnvCl.cons .top (EnvCl.cons .top (EnvCl.cons .top (EnvCl.cons (.sl _ _ (cl_map (S_api_Message.cl _))) (EnvCl.cons (.int _ _) (EnvCl.cons (.int _ _) (EnvCl.cons .top (EnvCl.cons .top (EnvCl.nil _)))))))))))) ?_
              try simp only [RC, roundK_x, roundK_g, roundK_r]
              refine wp_region_i (by rfl) ?_
              simp only [go_sem, ↓evs_eq, Nat.reduceAdd, ↓reduceIte, Nat.reduceEqDiff, Nat.reduceBEq, Nat.reduceBNe, Nat.reduceLT, Int.reduceToNat, Int.reduceEq, Int.reduceLT, Int.reduceLE, reduceCtorEq, Nat.reduceMul, Nat.reduceLeDiff]
              refine Wk.same ?_
              exact hN103 (_, r119, _, _, _, (IntKind.wrap .i64 (x13_86 + 1)), _, _) hq
            · simp only [RC, roundK_x, roundK_g, roundK_r, scopeQ, retQ, ↓reduceIte, Bool.false_eq_true]
              exact leaveP_ok ((hX _ hv).1.mono (Nat.zero_le _)) (hX _ hv).2
        · refine wp_region_i (by rfl) ?_
          simp only [go_sem, ↓evs_eq, Nat.reduceAdd, ↓reduceIte, Nat.reduceEqDiff, Nat.reduceBEq, Nat.reduceBNe, Nat.reduceLT, Int.reduceToNat, Int.reduceEq, Int.reduceLT, Int.reduceLE, reduceCtorEq, Nat.reduceMul, Nat.reduceLeDiff]
          by_cases hc114 : (100 : Int) < (IntKind.wrap .i64 (x1_86 + 1))
          · replace hq := (R.post_if hq).1 hc114
            simp only [decide_eq_true hc114, go_sem, ↓evs_eq, Nat.reduceAdd, ↓reduceIte, Nat.reduceEqDiff, Nat.reduceBEq, Nat.reduceBNe, Nat.reduceLT, Int.reduceToNat, Int.reduceEq, Int.reduceLT, Int.reduceLE, reduceCtorEq, Nat.reduceMul, Nat.reduceLeDiff]
            exact hN113 true hq
          · replace hq := (R.post_if hq).2 hc114
            simp only [decide_eq_false hc114, go_sem, ↓evs_eq, Nat.reduceAdd, ↓reduceIte, Nat.reduceEqDiff, Nat.reduceBEq, Nat.reduceBNe, Nat.reduceLT, Int.reduceToNat, Int.reduceEq, Int.reduceLT, Int.reduceLE, reduceCtorEq, Nat.reduceMul, Nat.reduceLeDiff]
            exact hN113 (decide ((100 : Int) < (IntKind.wrap .i64 ((IntKind.wrap .i64 ((IntKind.wrap .i64 ((IntKind.wrap .i64 ((IntKind.wrap .i64 ((IntKind.wrap .i64 ((List.length ((gt x0 x13_86).Fields) : Int) + (List.length ((gt x0 x13_86).Extends) : Int))) + (List.length ((gt x0 x13_86).Enums) : Int))) + (List.length ((gt x0 x13_86).Oneofs) : Int))) + (List.length ((gt x0 x13_86).Ranges) : Int))) + (List.length ((gt x0 x13_86).Reserved) : Int))) + (List.length ((gt x0 x13_86).Words) : Int))))) hq
      · replace hq := (R.post_if hq).2 hc104
        refine condK_f (congrArg V.bool (decide_eq_false hc104)) ?_
        rw [wp_exit]
        try simp only [↓reduceIte, Nat.reduceEqDiff, reduceCtorEq, if_false, if_true, eq_self, Nat.succ_ne_self, RC, roundK_x, roundK_g, roundK_r]
        replace hq := hK102 _ hq
        try dsimp only at hq
        refine Wk.le (EnvLe.cons (.refl _) (EnvLe.cons (.refl _) (EnvLe.cons (.refl _) (EnvLe.cons (.refl _) (EnvLe.cons (.refl _) (EnvLe.cons (.refl _) (EnvLe.cons (.top _) (EnvLe.cons (.top _) (EnvLe.cons (.top _) (EnvLe.cons (.top _) (EnvLe.cons (.refl _) EnvLe.nil))))))))))) ?_
        try simp only [RC, roundK_x, roundK_g, roundK_r]
        exact hN70 (_, x1_86, _, _, _, _, _, _, _, _) hq
theorem glossarylaw11_count_ih (k : Nat) : ∀ {h : H} {x0 : List S_api_Message} {x1 : Int} {x2 : Int} {Q : Out → H → Prop} {KK : (Int) → Prop} {X : V → Prop} (hq : (glossarylaw11_count_n k x0 x1 x2).post KK X) (hK : ∀ r, KK r → Q (.ret (.int .i64 r)) h) (hX : ∀ v, X v → V.Cl 0 v ∧ Q (.panic v) h), CA qprim 20 [.sl 11 (List.map S_api_Message.enc x0), .int .i64 x1, .int .i64 x2] h Q := by
  induction k with
  | zero => intro h x0 x1 x2 Q KK X hq; exact False.elim hq
  | succ k ih => intro h x0 x1 x2 Q KK X hq hK hX; exact glossarylaw11_count_b_call (ih_glossarylaw11_count := ih) hq hK hX
theorem glossarylaw11_count_call {h : H} {x0 : List S_api_Message} {x1 : Int} {x2 : Int} {Q : Out → H → Prop} {KK : (Int) → Prop} {X : V → Prop} (hq : (glossarylaw11_count x0 x1 x2).post KK X) (hK : ∀ r, KK r → Q (.ret (.int .i64 r)) h) (hX : ∀ v, X v → V.Cl 0 v ∧ Q (.panic v) h) : CA qprim 20 [.sl 11 (List.map S_api_Message.enc x0), .int .i64 x1, .int .i64 x2] h Q := glossarylaw11_count_ih Many hq hK hX

def glossarylaw11_Few (x0 : S_api_File) : R (Bool) :=
  (if (List.length x0.Deps : Int) ≤ 20 then (if (List.length x0.Public : Int) ≤ 20 then (if (List.length x0.Enums : Int) ≤ 20 then (if (List.length x0.Services : Int) ≤ 20 then (if (List.length x0.Extends : Int) ≤ 40 then ((glossarylaw11_count x0.Messages 0 0).bind fun r18 => R.ok (decide (r18 ≤ 100))) else (R.ok false)) else (R.ok false)) else (R.ok false)) else (R.ok false)) else (R.ok false)).bind fun x2m9 => R.ok x2m9
theorem glossarylaw11_Few_call {h : H} {x0 : S_api_File} {Q : Out → H → Prop} {KK : (Bool) → Prop} {X : V → Prop} (hq : (glossarylaw11_Few x0).post KK X) (hK : ∀ r, KK r → Q (.ret (.bool r)) h) (hX : ∀ v, X v → V.Cl 0 v ∧ Q (.panic v) h) : CA qprim 6 [.agg [.str x0.Name, .str x0.Package, .sl 1 (List.map V.str x0.Deps), .sl 1 (List.map (V.int .i64) x0.Public), .sl 11 (List.map S_api_Message.enc x0.Messages), .sl 4 (List.map S_api_Enum.enc x0.Enums), .sl 4 (List.map S_api_Service.enc x0.Services), .sl 13 (List.map S_api_Field.enc x0.Extends), .str x0.Syntax, .sl 1 (List.map byteV x0.Options), .sl 1 (List.map byteV x0.Unknown)]] h Q := by
  refine acalln hp Try.func6 rfl (by kernel_rfl) (n := 37) rfl (rs := [.tmp 2]) rfl [0, 1, 2] [] true (by simp) ?_
  unfold glossarylaw11_Few at hq
  simp only [initEnv, List.map_cons, List.map_nil, List.getD_cons_zero, List.getD_cons_succ, List.getD_nil, V.demote]
  rw [wp_seq]
  refine wp_region_i (by rfl) ?_
  simp only [go_sem, ↓evs_eq, Nat.reduceAdd, ↓reduceIte, Nat.reduceEqDiff, Nat.reduceBEq, Nat.reduceBNe, Nat.reduceLT, Int.reduceToNat, Int.reduceEq, Int.reduceLT, Int.reduceLE, reduceCtorEq, Nat.reduceMul, Nat.reduceLeDiff]
  obtain ⟨K10, hK11, hq⟩ := R.post_cut hq
  refine seq_gen (acall_mono hp) (σ := Bool) (fun s => [(0, .agg [.str x0.Name, .str x0.Package, .sl 1 (List.map V.str x0.Deps), .sl 1 (List.map (V.int .i64) x0.Public), .sl 11 (List.map S_api_Message.enc x0.Messages), .sl 4 (List.map S_api_Enum.enc x0.Enums), .sl 4 (List.map S_api_Service.enc x0.Services), .sl 13 (List.map S_api_Field.enc x0.Extends), .str x0.Syntax, .sl 1 (List.map byteV x0.Options), .sl 1 (List.map byteV x0.Unknown)]), (1, .ref h.length 0), (2, .bool s)]) (fun s => h ++ [.cells 36 [.str x0.Name, .str x0.Package, .sl 1 (List.map V.str x0.Deps), .sl 1 (List.map (V.int .i64) x0.Public), .sl 11 (List.map S_api_Message.enc x0.Messages), .sl 4 (List.map S_api_Enum.enc x0.Enums), .sl 4 (List.map S_api_Service.enc x0.Services), .sl 13 (List.map S_api_Field.enc x0.Extends), .str x0.Syntax, .sl 1 (List.map byteV x0.Options), .sl 1 (List.map byteV x0.Unknown)]]) (fun s => K10 s) (fun x2m9 hq => ?_) (fun N hN12 => ?_)
  · replace hq := hK11 _ hq
    try dsimp only at hq ⊢
    rw [wp_ret]
    simp only [retQ, results, resultAll, resultOne, Nat.zero_add, scopeQ, go_sem, ↓evs_eq, Nat.reduceAdd, ↓reduceIte, Nat.reduceEqDiff, Nat.reduceBEq, Nat.reduceBNe, Nat.reduceLT, Int.reduceToNat, Int.reduceEq, Int.reduceLT, Int.reduceLE, reduceCtorEq, Nat.reduceMul, Nat.reduceLeDiff]
    refine ⟨_, (.refl _), ?_⟩
    refine leave_ok rfl (.bool _) ?_
    first | exact hK _ hq | (have hz_ := hK _ hq; simp only [List.map_cons, List.map_nil, go_sem, ↓evs_eq, Nat.reduceAdd, ↓reduceIte, Nat.reduceEqDiff, Nat.reduceBEq, Nat.reduceBNe, Nat.reduceLT, Int.reduceToNat, Int.reduceEq, Int.reduceLT, Int.reduceLE, reduceCtorEq, Nat.reduceMul, Nat.reduceLeDiff] at hz_ ⊢; exact hz_)
  · refine wp_region_i (by rfl) ?_
    simp only [go_sem, ↓evs_eq, Nat.reduceAdd, ↓reduceIte, Nat.reduceEqDiff, Nat.reduceBEq, Nat.reduceBNe, Nat.reduceLT, Int.reduceToNat, Int.reduceEq, Int.reduceLT, Int.reduceLE, reduceCtorEq, Nat.reduceMul, Nat.reduceLeDiff]
    by_cases hc13 : (List.length x0.Deps : Int) ≤ 20
    · replace hq := (R.post_if hq).1 hc13
      simp only [decide_eq_true hc13, go_sem, ↓evs_eq, Nat.reduceAdd, ↓reduceIte, Nat.reduceEqDiff, Nat.reduceBEq, Nat.reduceBNe, Nat.reduceLT, Int.reduceToNat, Int.reduceEq, Int.reduceLT, Int.reduceLE, reduceCtorEq, Nat.reduceMul, Nat.reduceLeDiff]
      by_cases hc14 : (List.length x0.Public : Int) ≤ 20
      · replace hq := (R.post_if hq).1 hc14
        simp only [decide_eq_true hc14, go_sem, ↓evs_eq, Nat.reduceAdd, ↓reduceIte, Nat.reduceEqDiff, Nat.reduceBEq, Nat.reduceBNe, Nat.reduceLT, Int.reduceToNat, Int.reduceEq, Int.reduceLT, Int.reduceLE, reduceCtorEq, Nat.reduceMul, Nat.reduceLeDiff]
        by_cases hc15 : (List.length x0.Enums : Int) ≤ 20
        · replace hq := (R.post_if hq).1 hc15
          simp only [decide_eq_true hc15, go_sem, ↓evs_eq, Nat.reduceAdd, ↓reduceIte, Nat.reduceEqDiff, Nat.reduceBEq, Nat.reduceBNe, Nat.reduceLT, Int.reduceToNat, Int.reduceEq, Int.reduceLT, Int.reduceLE, reduceCtorEq, Nat.reduceMul, Nat.reduceLeDiff]
          by_cases hc16 : (List.length x0.Services : Int) ≤ 20
          · replace hq := (R.post_if hq).1 hc16
            simp only [decide_eq_true hc16, go_sem, ↓evs_eq, Nat.reduceAdd, ↓reduceIte, Nat.reduceEqDiff, Nat.reduceBEq, Nat.reduceBNe, Nat.reduceLT, Int.reduceToNat, Int.reduceEq, Int.reduceLT, Int.reduceLE, reduceCtorEq, Nat.reduceMul, Nat.reduceLeDiff]
            by_cases hc17 : (List.length x0.Extends : Int) ≤ 40
            · replace hq := (R.post_if hq).1 hc17
              simp only [decide_eq_true hc17, go_sem, ↓evs_eq, Nat.reduceAdd, ↓reduceIte, Nat.reduceEqDiff, Nat.reduceBEq, Nat.reduceBNe, Nat.reduceLT, Int.reduceToNat, Int.reduceEq, Int.reduceLT, Int.reduceLE, reduceCtorEq, Nat.reduceMul, Nat.reduceLeDiff]
              obtain ⟨K19, hK20, hq⟩ := R.post_cut hq
              refine glossarylaw11_count_call (x0 := x0.Messages) (x1 := 0) (x2 := 0) hq (fun r18 hq => ?_) (fun v hv => ⟨(hX v hv).1, ?_⟩)
              · replace hq := hK20 _ hq
                simp only [go_sem, ↓evs_eq, Nat.reduceAdd, ↓reduceIte, Nat.reduceEqDiff, Nat.reduceBEq, Nat.reduceBNe, Nat.reduceLT, Int.reduceToNat, Int.reduceEq, Int.reduceLT, Int.reduceLE, reduceCtorEq, Nat.reduceMul, Nat.reduceLeDiff]
                exact hN12 (decide (r18 ≤ 100)) hq
              · simp only [RC, roundK_x, roundK_g, roundK_r, scopeQ, retQ, ↓reduceIte, Bool.false_eq_true]
                exact leaveP_ok ((hX _ hv).1.mono (Nat.zero_le _)) (hX _ hv).2
            · replace hq := (R.post_if hq).2 hc17
              simp only [decide_eq_false hc17, go_sem, ↓evs_eq, Nat.reduceAdd, ↓reduceIte, Nat.reduceEqDiff, Nat.reduceBEq, Nat.reduceBNe, Nat.reduceLT, Int.reduceToNat, Int.reduceEq, Int.reduceLT, Int.reduceLE, reduceCtorEq, Nat.reduceMul, Nat.reduceLeDiff]
              exact hN12 false hq
          · replace hq := (R.post_if hq).2 hc16
            simp only [decide_eq_false hc16, go_sem, ↓evs_eq, Nat.reduceAdd, ↓reduceIte, Nat.reduceEqDiff, Nat.reduceBEq, Nat.reduceBNe, Nat.reduceLT, Int.reduceToNat, Int.reduceEq, Int.reduceLT, Int.reduceLE, reduceCtorEq, Nat.reduceMul, Nat.reduceLeDiff]
            exact hN12 false hq
        · replace hq := (R.post_if hq).2 hc15
          simp only [decide_eq_false hc15, go_sem, ↓evs_eq, Nat.reduceAdd, ↓reduceIte, Nat.reduceEqDiff, Nat.reduceBEq, Nat.reduceBNe, Nat.reduceLT, Int.reduceToNat, Int.reduceEq, Int.reduceLT, Int.reduceLE, reduceCtorEq, Nat.reduceMul, Nat.reduceLeDiff]
          exact hN12 false hq
      · replace hq := (R.post_if hq).2 hc14
        simp only [decide_eq_false hc14, go_sem, ↓evs_eq, Nat.reduceAdd, ↓reduceIte, Nat.reduceEqDiff, Nat.reduceBEq, Nat.reduceBNe, Nat.reduceLT, Int.reduceToNat, Int.reduceEq, Int.reduceLT, Int.reduceLE, reduceCtorEq, Nat.reduceMul, Nat.reduceLeDiff]
        exact hN12 false hq
    · replace hq := (R.post_if hq).2 hc13
      simp only [decide_eq_false hc13, go_sem, ↓evs_eq, Nat.reduceAdd, ↓reduceIte, Nat.reduceEqDiff, Nat.reduceBEq, Nat.reduceBNe, Nat.reduceLT, Int.reduceToNat, Int.reduceEq, Int.reduceLT, Int.reduceLE, reduceCtorEq, Nat.reduceMul, Nat.reduceLeDiff]
      exact hN12 false hq

def wire_fields (o0_0 : Int) (x0 : List UInt8) : R ((List UInt8)) :=
  R.ok x0
theorem wire_fields_call {h : H} {o0_0 : Int} {x0 : List UInt8} {Q : Out → H → Prop} {id0 : Nat} (h00 : h[id0]? = some (.cells 60 [.int .i64 o0_0])) {KK : ((List UInt8)) → Prop} {X : V → Prop} (hq : (wire_fields o0_0 x0).post KK X) (hK : ∀ r, KK r → Q (.ret (.func (.func 77) [] [.ref h.length 0, .ref (h.length + 1) 0])) (h ++ [.cells 28 [.sl 1 (List.map byteV r)], .cells 105 [.ref id0 0]])) (hX : ∀ v, X v → False) : CA qprim 45 [.sl 1 (List.map byteV x0), .ref id0 0] h Q := by
  refine acalln hp Try.func45 rfl (by kernel_rfl) (n := 6) rfl (rs := [.tmp 4]) rfl [0, 1, 2, 3, 4] [] false (by simp) ?_
  unfold wire_fields at hq
  simp only [initEnv, List.map_cons, List.map_nil, List.getD_cons_zero, List.getD_cons_succ, List.getD_nil, V.demote]
  have hlt0 : id0 < h.length := (List.getElem?_eq_some_iff.1 h00).1
  have hlen : ∀ (c0 : AObj), List.length (List.set h id0 c0) = h.length := by intros; simp only [List.length_set]
  have hg0 : ∀ (c0 : AObj), ((List.set h id0 c0) : List AObj)[id0]? = some c0 := by intros; simp [List.getElem?_set, hlt0]
  have hgl0 : ∀ (c0 : AObj) (L : List AObj), ((List.set h id0 c0) ++ L)[id0]? = some c0 := by intros; rw [List.getElem?_append_left (by rw [hlen]; exact hlt0)]; exact hg0 _
  have hs0 : ∀ (c0 : AObj) (x : AObj), List.set (List.set h id0 c0) id0 x = (List.set h id0 x) := by intros; simp only [List.set_set]
  have hsl0 : ∀ (c0 : AObj) (x : AObj) (L : List AObj), List.set ((List.set h id0 c0) ++ L) id0 x = (List.set h id0 x) ++ L := by intros; rw [List.set_append_left _ _ (by rw [hlen]; exact hlt0), hs0]
  have hgL : ∀ (c0 : AObj) (L : List AObj) (j : Nat), ((List.set h id0 c0) ++ L)[h.length + j]? = L[j]? := by intro c0 L j; have := get_loc (h := (List.set h id0 c0)) (L := L) (j := j); rwa [hlen] at this
  have hgL0 : ∀ (c0 : AObj) (L : List AObj), ((List.set h id0 c0) ++ L)[h.length]? = L[0]? := fun c0 L => hgL c0 L 0
  have hsL : ∀ (c0 : AObj) (L : List AObj) (j : Nat) (x : AObj), List.set ((List.set h id0 c0) ++ L) (h.length + j) x = (List.set h id0 c0) ++ List.set L j x := by intro c0 L j x; have := set_loc (h := (List.set h id0 c0)) (L := L) (j := j) (o := x); rwa [hlen] at this
  have hsL0 : ∀ (c0 : AObj) (L : List AObj) (x : AObj), List.set ((List.set h id0 c0) ++ L) h.length x = (List.set h id0 c0) ++ List.set L 0 x := fun c0 L x => hsL c0 L 0 x
  refine wp_heap (h' := (List.set h id0 (.cells 60 [.int .i64 o0_0]))) (by rw [set_same h00]) ?_
  rw [wp_seq]
  refine wp_region_i (by rfl) ?_
  simp only [go_sem, ↓evs_eq, Nat.reduceAdd, ↓reduceIte, Nat.reduceEqDiff, Nat.reduceBEq, Nat.reduceBNe, Nat.reduceLT, Int.reduceToNat, Int.reduceEq, Int.reduceLT, Int.reduceLE, reduceCtorEq, Nat.reduceMul, Nat.reduceLeDiff, hg0, hgl0, hs0, hsl0, hgL, hgL0, hsL, hsL0, hlen]
  rw [wp_seq]
  refine wp_region_i (by rfl) ?_
  simp only [go_sem, ↓evs_eq, Nat.reduceAdd, ↓reduceIte, Nat.reduceEqDiff, Nat.reduceBEq, Nat.reduceBNe, Nat.reduceLT, Int.reduceToNat, Int.reduceEq, Int.reduceLT, Int.reduceLE, reduceCtorEq, Nat.reduceMul, Nat.reduceLeDiff, hg0, hgl0, hs0, hsl0, hgL, hgL0, hsL, hsL0, hlen]
  rw [wp_ret]
  simp only [retQ, results, resultAll, resultOne, Nat.zero_add, scopeQ, go_sem, ↓evs_eq, Nat.reduceAdd, ↓reduceIte, Nat.reduceEqDiff, Nat.reduceBEq, Nat.reduceBNe, Nat.reduceLT, Int.reduceToNat, Int.reduceEq, Int.reduceLT, Int.reduceLE, reduceCtorEq, Nat.reduceMul, Nat.reduceLeDiff, hg0, hgl0, hs0, hsl0, hgL, hgL0, hsL, hsL0, hlen]
  refine ⟨_, (.refl _), ?_⟩
  rw [set_same h00]
  first | exact hK _ hq | (have hz_ := hK _ hq; simp only [List.map_cons, List.map_nil, go_sem, ↓evs_eq, Nat.reduceAdd, ↓reduceIte, Nat.reduceEqDiff, Nat.reduceBEq, Nat.reduceBNe, Nat.reduceLT, Int.reduceToNat, Int.reduceEq, Int.reduceLT, Int.reduceLE, reduceCtorEq, Nat.reduceMul, Nat.reduceLeDiff, hg0, hgl0, hs0, hsl0, hgL, hgL0, hsL, hsL0, hlen] at hz_ ⊢; exact hz_)

def wire_Read_j0 (o3_0_23 : List S_api_Raw) (o4_0_23 : Int) (o5_0_23 : List UInt8) : R ((List S_api_Raw) × Int × Int) :=
  R.ok (o3_0_23, 0, 0)
def wire_Read_r1 : List FieldT → List S_api_Raw → Int → R (((List S_api_Raw) × Int) ⊕ ((List S_api_Raw) × Int × Int))
  | [], o3_0_35, o4_0_35 => R.ok (.inl (o3_0_35, o4_0_35))
  | e30 :: k, o3_0_35, o4_0_35 => if e30.2.2 = 0 then (if List.length o3_0_35 + List.length ([(S_api_Raw.mk e30.2.1.1 e30.2.1.2.1 e30.2.1.2.2.1 e30.2.1.2.2.2)]) ≤ 1000000000 then (wire_Read_r1 k (o3_0_35 ++ ([(S_api_Raw.mk e30.2.1.1 e30.2.1.2.1 e30.2.1.2.2.1 e30.2.1.2.2.2)])) e30.2.2) else R.stuck) else (R.ok (.inr ([], e30.1, e30.2.2)))
def wire_Read (x0 : List UInt8) : R ((List S_api_Raw) × Int × Int) :=
  (wire_fields 0 x0).sure.bind fun r28 => (fieldsT r28).sure.bind fun z29 => (wire_Read_r1 z29 [] 0).bind fun | (.inl (o3_0p53, o4_0p53)) => wire_Read_j0 o3_0p53 o4_0p53 r28 | (.inr rp54) => R.ok rp54
theorem wire_Read_call {h : H} {x0 : List UInt8} {Q : Out → H → Prop} {KK : ((List S_api_Raw) × Int × Int) → Prop} {X : V → Prop} (hq : (wire_Read x0).post KK X) (hK : ∀ r, KK r → Q (.ret (.tup [.sl 4 (List.map S_api_Raw.enc r.1), .int .i64 r.2.1, .int .i64 r.2.2])) h) (hX : ∀ v, X v → V.Cl 0 v ∧ Q (.panic v) h) : CA qprim 21 [.sl 1 (List.map byteV x0)] h Q := by
  refine acalln hp Try.func21 rfl (by kernel_rfl) (n := 22) rfl (rs := [.cell 2 65, .cell 3 3, .cell 4 60]) rfl [0, 2, 3, 4, 5, 6, 7, 8, 10, 11, 12, 14] [17] true (by simp) ?_
  unfold wire_Read at hq
  simp only [initEnv, List.map_cons, List.map_nil, List.getD_cons_zero, List.getD_cons_succ, List.getD_nil, V.demote]
  rw [wp_seq]
  refine wp_region_i (by rfl) ?_
  simp only [go_sem, ↓evs_eq, Nat.reduceAdd, ↓reduceIte, Nat.reduceEqDiff, Nat.reduceBEq, Nat.reduceBNe, Nat.reduceLT, Int.reduceToNat, Int.reduceEq, Int.reduceLT, Int.reduceLE, reduceCtorEq, Nat.reduceMul, Nat.reduceLeDiff]
  rw [wp_seq]
  refine wp_region_i (by rfl) ?_
  simp only [go_sem, ↓evs_eq, Nat.reduceAdd, ↓reduceIte, Nat.reduceEqDiff, Nat.reduceBEq, Nat.reduceBNe, Nat.reduceLT, Int.reduceToNat, Int.reduceEq, Int.reduceLT, Int.reduceLE, reduceCtorEq, Nat.reduceMul, Nat.reduceLeDiff]
  rw [wp_seq]
  refine wp_region_i (by rfl) ?_
  simp only [go_sem, ↓evs_eq, Nat.reduceAdd, ↓reduceIte, Nat.reduceEqDiff, Nat.reduceBEq, Nat.reduceBNe, Nat.reduceLT, Int.reduceToNat, Int.reduceEq, Int.reduceLT, Int.reduceLE, reduceCtorEq, Nat.reduceMul, Nat.reduceLeDiff]
  refine seq_gen (acall_mono hp) (σ := V × V × V × V × (List S_api_Raw) × Int × (List UInt8)) (fun s => [(0, .sl 1 (List.map byteV x0)), (2, .ref h.length 0), (3, .ref (h.length + 1) 0), (4, .ref (h.length + 2) 0), (5, .ref (h.length + 3) 0), (6, .ref (h.length + 4) 0), (7, s.1), (8, s.2.1), (10, s.2.2.1), (11, .top), (12, .top), (14, s.2.2.2.1)]) (fun s => h ++ [.cells 65 [.nils 73 4], .cells 3 [.int .i64 0], .cells 60 [.int .i64 0], .cells 65 [.own 73 4 (List.map S_api_Raw.enc s.2.2.2.2.1)], .cells 60 [.int .i64 s.2.2.2.2.2.1], .cells 28 [.sl 1 (List.map byteV s.2.2.2.2.2.2)], .cells 105 [.ref (h.length + 4) 0]]) (fun s => (wire_Read_j0 s.2.2.2.2.1 s.2.2.2.2.2.1 s.2.2.2.2.2.2).post KK X) (fun s hq => ?_) (fun N hN24 => ?_)
  · obtain ⟨y7_23, y8_23, y10_23, y14_23, o3_0_23, o4_0_23, o5_0_23⟩ := s
    try dsimp only at hq ⊢
    unfold wire_Read_j0 at hq
    rw [wp_seq]
    refine wp_region_i (by rfl) ?_
    simp only [go_sem, ↓evs_eq, Nat.reduceAdd, ↓reduceIte, Nat.reduceEqDiff, Nat.reduceBEq, Nat.reduceBNe, Nat.reduceLT, Int.reduceToNat, Int.reduceEq, Int.reduceLT, Int.reduceLE, reduceCtorEq, Nat.reduceMul, Nat.reduceLeDiff]
    rw [wp_ret]
    simp only [retQ, results, resultAll, resultOne, Nat.zero_add, scopeQ, go_sem, ↓evs_eq, Nat.reduceAdd, ↓reduceIte, Nat.reduceEqDiff, Nat.reduceBEq, Nat.reduceBNe, Nat.reduceLT, Int.reduceToNat, Int.reduceEq, Int.reduceLT, Int.reduceLE, reduceCtorEq, Nat.reduceMul, Nat.reduceLeDiff]
    refine ⟨_, (.refl _), ?_⟩
    refine leave_ok rfl (.tup _ (cl_cons (.sl _ _ (cl_map (S_api_Raw.cl _))) (cl_cons (.int _ _) (cl_cons (.int _ _) cl_nil)))) ?_
    first | exact hK _ hq | (have hz_ := hK _ hq; simp only [List.map_cons, List.map_nil, go_sem, ↓evs_eq, Nat.reduceAdd, ↓reduceIte, Nat.reduceEqDiff, Nat.reduceBEq, Nat.reduceBNe, Nat.reduceLT, Int.reduceToNat, Int.reduceEq, Int.reduceLT, Int.reduceLE, reduceCtorEq, Nat.reduceMul, Nat.reduceLeDiff] at hz_ ⊢; exact hz_)
  · rw [wp_seq]
    refine wp_region_i (by rfl) ?_
    simp only [go_sem, ↓evs_eq, Nat.reduceAdd, ↓reduceIte, Nat.reduceEqDiff, Nat.reduceBEq, Nat.reduceBNe, Nat.reduceLT, Int.reduceToNat, Int.reduceEq, Int.reduceLT, Int.reduceLE, reduceCtorEq, Nat.reduceMul, Nat.reduceLeDiff]
    obtain ⟨K55, hK56, hq⟩ := R.post_cut_sure hq
    refine wire_fields_call (o0_0 := 0) (x0 := x0) (id0 := (h.length + 4)) (by first | (simp only [go_sem, ↓evs_eq, Nat.reduceAdd, ↓reduceIte, Nat.reduceEqDiff, Nat.reduceBEq, Nat.reduceBNe, Nat.reduceLT, Int.reduceToNat, Int.reduceEq, Int.reduceLT, Int.reduceLE, reduceCtorEq, Nat.reduceMul, Nat.reduceLeDiff] <;> rfl) | assumption | rfl) hq (fun r28 hq => ?_) (fun v hv => hv.elim)
    replace hq := hK56 _ hq
    simp only [go_sem, ↓evs_eq, Nat.reduceAdd, ↓reduceIte, Nat.reduceEqDiff, Nat.reduceBEq, Nat.reduceBNe, Nat.reduceLT, Int.reduceToNat, Int.reduceEq, Int.reduceLT, Int.reduceLE, reduceCtorEq, Nat.reduceMul, Nat.reduceLeDiff]
    rw [wp_block]
    obtain ⟨K50, hK51, hq⟩ := R.post_cut_sure hq
    obtain ⟨z29, hr52, hq⟩ := R.post_okf hq
    replace hq := hK51 _ hq
    refine range_in ?_
    refine Wk.leo (id := (h.length + 3)) (o := .cells 65 [.nils 73 4]) (o' := .cells 65 [.own 73 4 []]) (by first | (simp only [go_sem, ↓evs_eq, Nat.reduceAdd, ↓reduceIte, Nat.reduceEqDiff, Nat.reduceBEq, Nat.reduceBNe, Nat.reduceLT, Int.reduceToNat, Int.reduceEq, Int.reduceLT, Int.reduceLE, reduceCtorEq, Nat.reduceMul, Nat.reduceLeDiff] <;> rfl) | rfl) (.cells _ _ _ (LLe.cons (.nown _ _) LLe.nil)) (EnvLe.cons (.refl _) (EnvLe.cons (.refl _) (EnvLe.cons (.refl _) (EnvLe.cons (.refl _) (EnvLe.cons (.refl _) (EnvLe.cons (.refl _) (EnvLe.cons (.refl _) (EnvLe.cons (.refl _) (EnvLe.cons (.refl _) (EnvLe.cons (.refl _) (EnvLe.cons (.refl _) (EnvLe.cons (.refl _) EnvLe.nil)))))))))))) ?_
    simp only [go_sem, ↓evs_eq, Nat.reduceAdd, ↓reduceIte, Nat.reduceEqDiff, Nat.reduceBEq, Nat.reduceBNe, Nat.reduceLT, Int.reduceToNat, Int.reduceEq, Int.reduceLT, Int.reduceLE, reduceCtorEq, Nat.reduceMul, Nat.reduceLeDiff]
    obtain ⟨K41, hK42, hq⟩ := R.post_cut hq
    refine range_go 77 [.ref (h.length + 5) 0, .ref (h.length + 6) 0] (by simp only [go_sem, ↓evs_eq, Nat.reduceAdd, ↓reduceIte, Nat.reduceEqDiff, Nat.reduceBEq, Nat.reduceBNe, Nat.reduceLT, Int.reduceToNat, Int.reduceEq, Int.reduceLT, Int.reduceLE, reduceCtorEq, Nat.reduceMul, Nat.reduceLeDiff]) (by rfl) (fields_it (jb := (h.length + 5)) (je := (h.length + 6)) (ce := (h.length + 4)) (b := r28) (l := z29) (e0 := 0) (by omega) (by omega) (by first | (simp only [go_sem, ↓evs_eq, Nat.reduceAdd, ↓reduceIte, Nat.reduceEqDiff, Nat.reduceBEq, Nat.reduceBNe, Nat.reduceLT, Int.reduceToNat, Int.reduceEq, Int.reduceLT, Int.reduceLE, reduceCtorEq, Nat.reduceMul, Nat.reduceLeDiff] <;> rfl) | rfl) (by first | (simp only [go_sem, ↓evs_eq, Nat.reduceAdd, ↓reduceIte, Nat.reduceEqDiff, Nat.reduceBEq, Nat.reduceBNe, Nat.reduceLT, Int.reduceToNat, Int.reduceEq, Int.reduceLT, Int.reduceLE, reduceCtorEq, Nat.reduceMul, Nat.reduceLeDiff] <;> rfl) | rfl) (by first | (simp only [go_sem, ↓evs_eq, Nat.reduceAdd, ↓reduceIte, Nat.reduceEqDiff, Nat.reduceBEq, Nat.reduceBNe, Nat.reduceLT, Int.reduceToNat, Int.reduceEq, Int.reduceLT, Int.reduceLE, reduceCtorEq, Nat.reduceMul, Nat.reduceLeDiff] <;> rfl) | rfl) hr52 ⟨_, _, rfl, rfl, ?_⟩)
    refine rounds_gen (ps := [11, 12]) (α := FieldT) (σ := (List S_api_Raw) × Int) (fun e30 => [((h.length + 4), .cells 60 [.int .i64 e30.2.2])]) (fun e30 => [.int .i64 e30.1, .agg [.int .i64 e30.2.1.1, .int .i64 e30.2.1.2.1, .int .u64 e30.2.1.2.2.1, .sl 1 (List.map byteV e30.2.1.2.2.2)]]) (fun s => h ++ [.cells 65 [.nils 73 4], .cells 3 [.int .i64 0], .cells 60 [.int .i64 0], .cells 65 [.own 73 4 (List.map S_api_Raw.enc s.1)], .cells 60 [.int .i64 s.2], .cells 28 [.sl 1 (List.map byteV r28)], .cells 105 [.ref (h.length + 4) 0]]) (fun xs_ s => (wire_Read_r1 xs_ s.1 s.2).post K41 X) (fun e30 k49 s hq N hN43 => ⟨(by rfl), ?_⟩) (fun s hq => ?_) z29 ([], 0) hq
    · obtain ⟨o3_0_35, o4_0_35⟩ := s
      try dsimp only at hq ⊢
      rw [wire_Read_r1] at hq
      simp only [go_sem, ↓evs_eq, Nat.reduceAdd, ↓reduceIte, Nat.reduceEqDiff, Nat.reduceBEq, Nat.reduceBNe, Nat.reduceLT, Int.reduceToNat, Int.reduceEq, Int.reduceLT, Int.reduceLE, reduceCtorEq, Nat.reduceMul, Nat.reduceLeDiff]
      rw [wp_seq]
      refine wp_region_i (by rfl) ?_
      simp only [go_sem, ↓evs_eq, Nat.reduceAdd, ↓reduceIte, Nat.reduceEqDiff, Nat.reduceBEq, Nat.reduceBNe, Nat.reduceLT, Int.reduceToNat, Int.reduceEq, Int.reduceLT, Int.reduceLE, reduceCtorEq, Nat.reduceMul, Nat.reduceLeDiff]
      refine wp_region_i (by rfl) ?_
      simp only [go_sem, ↓evs_eq, Nat.reduceAdd, ↓reduceIte, Nat.reduceEqDiff, Nat.reduceBEq, Nat.reduceBNe, Nat.reduceLT, Int.reduceToNat, Int.reduceEq, Int.reduceLT, Int.reduceLE, reduceCtorEq, Nat.reduceMul, Nat.reduceLeDiff]
      rw [wp_block]
      rw [wp_seq]
      rw [wp_seq]
      refine wp_region_i (by rfl) ?_
      simp only [go_sem, ↓evs_eq, Nat.reduceAdd, ↓reduceIte, Nat.reduceEqDiff, Nat.reduceBEq, Nat.reduceBNe, Nat.reduceLT, Int.reduceToNat, Int.reduceEq, Int.reduceLT, Int.reduceLE, reduceCtorEq, Nat.reduceMul, Nat.reduceLeDiff]
      rw [wp_cond]
      simp only [go_sem, ↓evs_eq, Nat.reduceAdd, ↓reduceIte, Nat.reduceEqDiff, Nat.reduceBEq, Nat.reduceBNe, Nat.reduceLT, Int.reduceToNat, Int.reduceEq, Int.reduceLT, Int.reduceLE, reduceCtorEq, Nat.reduceMul, Nat.reduceLeDiff]
      by_cases hc44 : e30.2.2 = 0
      · replace hq := (R.post_if hq).1 hc44
        refine condK_f (congrArg (fun b => V.bool (!b)) (decide_eq_true hc44)) ?_
        try simp only [wp_skip, RC, roundK_x, roundK_g, roundK_r]
        refine Wk.same ?_
        try simp only [RC, roundK_x, roundK_g, roundK_r]
        refine wp_region_i (by rfl) ?_
        obtain ⟨g47, hq⟩ := R.guard hq
        have e48 : List.map S_api_Raw.enc o3_0_35 ++ [.agg [.int .i64 e30.2.1.1, .int .i64 e30.2.1.2.1, .int .u64 e30.2.1.2.2.1, .sl 1 (List.map byteV e30.2.1.2.2.2)]] = List.map S_api_Raw.enc (o3_0_35 ++ ([(S_api_Raw.mk e30.2.1.1 e30.2.1.2.1 e30.2.1.2.2.1 e30.2.1.2.2.2)])) := (List.map_append (f := S_api_Raw.enc) (l₁ := o3_0_35) (l₂ := [(S_api_Raw.mk e30.2.1.1 e30.2.1.2.1 e30.2.1.2.2.1 e30.2.1.2.2.2)])).symm
        simp only [e48, go_sem, ↓evs_eq, Nat.reduceAdd, ↓reduceIte, Nat.reduceEqDiff, Nat.reduceBEq, Nat.reduceBNe, Nat.reduceLT, Int.reduceToNat, Int.reduceEq, Int.reduceLT, Int.reduceLE, reduceCtorEq, Nat.reduceMul, Nat.reduceLeDiff]
        repeat (with_reducible refine And.intro (by first | omega | assumption) ?_)
        refine Wk.le (EnvLe.cons (.top _) (EnvLe.cons (.top _) (EnvLe.cons (.top _) (EnvLe.cons (.top _) (EnvLe.cons (.top _) (EnvLe.cons (.top _) (EnvLe.cons (.top _) (EnvLe.cons (.top _) (EnvLe.cons (.top _) (EnvLe.cons (.top _) (EnvLe.cons (.top _) (EnvLe.cons (.top _) EnvLe.nil)))))))))))) ?_
        try simp only [RC, roundK_x, roundK_g, roundK_r]
        refine round_end ?_
        refine Wk.drop [.cells 65 [.nils 73 4], .cells 3 [.int .i64 0], .cells 60 [.int .i64 0], .cells 65 [.own 73 4 (List.map S_api_Raw.enc (o3_0_35 ++ ([(S_api_Raw.mk e30.2.1.1 e30.2.1.2.1 e30.2.1.2.2.1 e30.2.1.2.2.2)])))], .cells 60 [.int .i64 e30.2.2], .cells 28 [.sl 1 (List.map byteV r28)], .cells 105 [.ref (h.length + 4) 0]] _ [.cells 73 [.int .i64 e30.2.1.1, .int .i64 e30.2.1.2.1, .int .u64 e30.2.1.2.2.1, .sl 1 (List.map byteV e30.2.1.2.2.2)]] rfl rfl (EnvLe.cons (.refl _) (EnvLe.cons (.refl _) (EnvLe.cons (.refl _) (EnvLe.cons (.refl _) (EnvLe.cons (.refl _) (EnvLe.cons (.refl _) (EnvLe.cons (.refl _) (EnvLe.cons (.refl _) (EnvLe.cons (.refl _) (EnvLe.cons (.refl _) (EnvLe.cons (.refl _) (EnvLe.cons (.refl _) EnvLe.nil)))))))))))) (EnvCl.cons .top (EnvCl.cons .top (EnvCl.cons .top (EnvCl.cons .top (EnvCl.cons .top (EnvCl.cons .top (EnvCl.cons .top (EnvCl.cons .top (EnvCl.cons .top (EnvCl.cons .top (EnvCl.cons .top (EnvCl.cons .top (EnvCl.nil _))))))))))))) (objcl_cons (cl_cons (.nils _ _) cl_nil) (objcl_cons (cl_cons (.int _ _) cl_nil) (objcl_cons (cl_cons (.int _ _) cl_nil) (objcl_cons (cl_cons (.own _ _ _ (cl_map (S_api_Raw.cl _))) cl_nil) (objcl_cons (cl_cons (.int _ _) cl_nil) (objcl_cons (cl_cons (.sl _ _ (cl_map (fun x => cl_byte x))) cl_nil) (objcl_cons (cl_cons (.ref _ _ (by first | omega | (simp only [List.length_append, List.length_cons, List.length_nil, List.length_set]; omega))) cl_nil) objcl_nil))))))) ?_
        exact ⟨(fun i hi => by simp only [List.mem_cons, List.not_mem_nil, or_false] at hi; rcases hi with rfl | rfl | rfl <;> simp only [go_sem, ↓evs_eq, Nat.reduceAdd, ↓reduceIte, Nat.reduceEqDiff, Nat.reduceBEq, Nat.reduceBNe, Nat.reduceLT, Int.reduceToNat, Int.reduceEq, Int.reduceLT, Int.reduceLE, reduceCtorEq, Nat.reduceMul, Nat.reduceLeDiff]), hN43 ((o3_0_35 ++ ([(S_api_Raw.mk e30.2.1.1 e30.2.1.2.1 e30.2.1.2.2.1 e30.2.1.2.2.2)])), e30.2.2) hq⟩
      · replace hq := (R.post_if hq).2 hc44
        refine condK_t (congrArg (fun b => V.bool (!b)) (decide_eq_false hc44)) ?_
        rw [wp_seq]
        refine wp_drawAll_at [(0, .sl 1 (List.map byteV x0)), (2, .ref h.length 0), (3, .ref (h.length + 1) 0), (4, .ref (h.length + 2) 0), (5, .ref (h.length + 3) 0), (6, .ref (h.length + 4) 0), (7, .int .i64 e30.1), (8, .ref (h.length + 7) 0), (10, .func (.func 77) [] [.ref (h.length + 5) 0, .ref (h.length + 6) 0]), (11, .int .i64 e30.1), (12, .agg [.int .i64 e30.2.1.1, .int .i64 e30.2.1.2.1, .int .u64 e30.2.1.2.2.1, .sl 1 (List.map byteV e30.2.1.2.2.2)]), (14, .bool (!(decide (e30.2.2 = 0))))] (h ++ [.cells 65 [.nils 73 4], .cells 3 [.int .i64 e30.1], .cells 60 [.int .i64 e30.2.2], .cells 65 [.own 73 4 (List.map S_api_Raw.enc o3_0_35)], .cells 60 [.int .i64 e30.2.2], .cells 28 [.sl 1 (List.map byteV r28)], .cells 105 [.ref (h.length + 4) 0], .cells 73 [.int .i64 e30.2.1.1, .int .i64 e30.2.1.2.1, .int .u64 e30.2.1.2.2.1, .sl 1 (List.map byteV e30.2.1.2.2.2)]]) (by kernel_rfl) (by kernel_rfl) (os := [[0, 1, 2, 3, 4], [0, 2, 1, 3, 4], [0, 2, 3, 1, 4], [1, 0, 2, 3, 4], [1, 2, 0, 3, 4], [2, 0, 1, 3, 4], [2, 0, 3, 1, 4], [2, 1, 0, 3, 4]]) (by kernel_rfl) (by kernel_rfl) ?_ ?_
        · intro q hq_
          simp only [List.mem_cons, List.not_mem_nil, or_false] at hq_
          rcases hq_ with rfl | rfl | rfl | rfl | rfl | rfl | rfl | rfl
          all_goals simp only [List.map_cons, List.map_nil, List.getD_cons_zero, List.getD_cons_succ, go_sem, ↓evs_eq, Nat.reduceAdd, ↓reduceIte, Nat.reduceEqDiff, Nat.reduceBEq, Nat.reduceBNe, Nat.reduceLT, Int.reduceToNat, Int.reduceEq, Int.reduceLT, Int.reduceLE, reduceCtorEq, Nat.reduceMul, Nat.reduceLeDiff]
          all_goals exact ⟨rfl, rfl⟩
        · try simp only [RC, roundK_x, roundK_g, roundK_r]
          rw [wp_ret]
          simp only [retQ, results, resultAll, resultOne, Nat.zero_add, scopeQ, go_sem, ↓evs_eq, Nat.reduceAdd, ↓reduceIte, Nat.reduceEqDiff, Nat.reduceBEq, Nat.reduceBNe, Nat.reduceLT, Int.reduceToNat, Int.reduceEq, Int.reduceLT, Int.reduceLE, reduceCtorEq, Nat.reduceMul, Nat.reduceLeDiff]
          refine ⟨_, (.tup _ _ (LLe.cons (.nsl _ _) (LLe.cons (.refl _) (LLe.cons (.refl _) LLe.nil))).1 (LLe.cons (.nsl _ _) (LLe.cons (.refl _) (LLe.cons (.refl _) LLe.nil))).2), ?_⟩
          refine leave_ok rfl (.tup _ (cl_cons (.sl _ _ cl_nil) (cl_cons (.int _ _) (cl_cons (.int _ _) cl_nil)))) ?_
          replace hq := hK42 _ hq
          first | exact hK _ hq | (have hz_ := hK _ hq; simp only [List.map_cons, List.map_nil, go_sem, ↓evs_eq, Nat.reduceAdd, ↓reduceIte, Nat.reduceEqDiff, Nat.reduceBEq, Nat.reduceBNe, Nat.reduceLT, Int.reduceToNat, Int.reduceEq, Int.reduceLT, Int.reduceLE, reduceCtorEq, Nat.reduceMul, Nat.reduceLeDiff] at hz_ ⊢; exact hz_)
    · obtain ⟨o3_0_35, o4_0_35⟩ := s
      try dsimp only at hq ⊢
      rw [wire_Read_r1] at hq
      replace hq := hK42 _ hq
      try dsimp only at hq
      try simp only [RC, roundK_x, roundK_g, roundK_r]
      refine Wk.le (EnvLe.cons (.refl _) (EnvLe.cons (.refl _) (EnvLe.cons (.refl _) (EnvLe.cons (.refl _) (EnvLe.cons (.refl _) (EnvLe.cons (.refl _) (EnvLe.cons (.refl _) (EnvLe.cons (.refl _) (EnvLe.cons (.top _) (EnvLe.cons (.refl _) (EnvLe.cons (.refl _) (EnvLe.cons (.refl _) EnvLe.nil)))))))))))) ?_
      try simp only [RC, roundK_x, roundK_g, roundK_r]
      exact hN24 (_, _, _, _, o3_0_35, o4_0_35, r28) hq

def slices_Backward_apiRaw (x0 : List S_api_Raw) : R ((List S_api_Raw)) :=
  R.ok x0
theorem slices_Backward_apiRaw_call {h : H} {x0 : List S_api_Raw} {Q : Out → H → Prop} {KK : ((List S_api_Raw)) → Prop} {X : V → Prop} (hq : (slices_Backward_apiRaw x0).post KK X) (hK : ∀ r, KK r → Q (.ret (.func (.func 46) [] [.ref h.length 0])) (h ++ [.cells 65 [.sl 4 (List.map S_api_Raw.enc r)]])) (hX : ∀ v, X v → False) : CA qprim 22 [.sl 4 (List.map S_api_Raw.enc x0)] h Q := by
  refine acalln hp Try.func22 rfl (by kernel_rfl) (n := 4) rfl (rs := [.tmp 2]) rfl [0, 1, 2] [] false (by simp) ?_
  unfold slices_Backward_apiRaw at hq
  simp only [initEnv, List.map_cons, List.map_nil, List.getD_cons_zero, List.getD_cons_succ, List.getD_nil, V.demote]
  rw [wp_seq]
  refine wp_region_i (by rfl) ?_
  simp only [go_sem, ↓evs_eq, Nat.reduceAdd, ↓reduceIte, Nat.reduceEqDiff, Nat.reduceBEq, Nat.reduceBNe, Nat.reduceLT, Int.reduceToNat, Int.reduceEq, Int.reduceLT, Int.reduceLE, reduceCtorEq, Nat.reduceMul, Nat.reduceLeDiff]
  rw [wp_seq]
  refine wp_region_i (by rfl) ?_
  simp only [go_sem, ↓evs_eq, Nat.reduceAdd, ↓reduceIte, Nat.reduceEqDiff, Nat.reduceBEq, Nat.reduceBNe, Nat.reduceLT, Int.reduceToNat, Int.reduceEq, Int.reduceLT, Int.reduceLE, reduceCtorEq, Nat.reduceMul, Nat.reduceLeDiff]
  rw [wp_ret]
  simp only [retQ, results, resultAll, resultOne, Nat.zero_add, scopeQ, go_sem, ↓evs_eq, Nat.reduceAdd, ↓reduceIte, Nat.reduceEqDiff, Nat.reduceBEq, Nat.reduceBNe, Nat.reduceLT, Int.reduceToNat, Int.reduceEq, Int.reduceLT, Int.reduceLE, reduceCtorEq, Nat.reduceMul, Nat.reduceLeDiff]
  refine ⟨_, (.refl _), ?_⟩
  first | exact hK _ hq | (have hz_ := hK _ hq; simp only [List.map_cons, List.map_nil, go_sem, ↓evs_eq, Nat.reduceAdd, ↓reduceIte, Nat.reduceEqDiff, Nat.reduceBEq, Nat.reduceBNe, Nat.reduceLT, Int.reduceToNat, Int.reduceEq, Int.reduceLT, Int.reduceLE, reduceCtorEq, Nat.reduceMul, Nat.reduceLeDiff] at hz_ ⊢; exact hz_)
end Go.Proofs.Ytpbnnbjkjaajnaa.Pv
set_option linter.unusedVariables false
set_option linter.unusedSimpArgs false
set_option maxHeartbeats 4000000
set_option maxRecDepth 10000
namespace Go.Proofs.Ytpbnnbjkjaajnaa.Pv
open Go Go.Proofs

attribute [local go_sem] RC RL RM roundK_x roundK_g roundK_r loadN V.slz V.slz1 lnB V.left V.lenOf slice3 sliceNil Option.getD_none Option.getD_some sliceOp cut upon_each nextM entryOp buildOk lookup lookV update elemOf Option.isSome_map unOp wanted aop tkB rwB neD Env.get Env.put Env.keep putD dstOk ev constV nilSlice V.demote V.toOwn V.asOwn V.cells tyE R1.res binOp isShift binOpT isC intOp strOp shiftOp byteV index indexAddr slice bounds hiB loB withB maxV minV evs pickV lenV builtin initEnv convert K.isU8 strOf load store fieldOf append appT fltOp cpxV realV imagV toInt rangeOp nextOp room fill placeOf splice repl chunks Ty.val Ty.agg V.plain H.row H.ety AObj.row putAll demEnv updH S_api_Message.enc_eq S_api_Field.enc S_api_Enum.enc S_api_Value.enc S_api_Range.enc S_api_Oneof.enc S_api_File.enc S_api_Service.enc S_api_Method.enc S_api_Raw.enc
def pool_Entry_j0 (o2_0_18 : List S_api_Raw) : R (Bool) :=
  R.ok false
def pool_Entry_r1 : List (Int × S_api_Raw) → R ((Unit) ⊕ (Bool))
  | [] => R.ok (.inl ())
  | e24 :: k => (if e24.2.Num = 7 then (R.ok (decide (e24.2.Kind = 0))) else (R.ok false)).bind fun x26m33 => if x26m33 = true then (R.ok (.inr (!(decide (e24.2.N = 0))))) else (pool_Entry_r1 k)
def pool_Entry (x0 : S_api_Message) : R (Bool) :=
  (wire_Read x0.Options).bind fun r4 => (slices_Backward_apiRaw r4.1).sure.bind fun r23 => if List.length r23 ≤ 1000000000 then ((pool_Entry_r1 (revIdx r23)).bind fun | (.inl _) => pool_Entry_j0 r23 | (.inr rp42) => R.ok rp42) else R.stuck
theorem pool_Entry_call {h : H} {x0 : S_api_Message} {Q : Out → H → Prop} {KK : (Bool) → Prop} {X : V → Prop} (hq : (pool_Entry x0).post KK X) (hK : ∀ r, KK r → Q (.ret (.bool r)) h) (hX : ∀ v, X v → V.Cl 0 v ∧ Q (.panic v) h) : CA qprim 8 [.agg [.str x0.Name, .sl 13 (List.map S_api_Field.enc x0.Fields), .sl 11 (List.map S_api_Message.enc x0.Nested), .sl 4 (List.map S_api_Enum.enc x0.Enums), .sl 2 (List.map S_api_Range.enc x0.Ranges), .sl 13 (List.map S_api_Field.enc x0.Extends), .sl 3 (List.map S_api_Oneof.enc x0.Oneofs), .sl 2 (List.map S_api_Range.enc x0.Reserved), .sl 1 (List.map V.str x0.Words), .sl 1 (List.map byteV x0.Options), .sl 1 (List.map byteV x0.Unknown)]] h Q := by
  refine acalln hp Try.func8 rfl (by kernel_rfl) (n := 30) rfl (rs := [.cell 2 4]) rfl [0, 1, 2, 3, 7, 16, 17, 18, 26] [] true (by simp) ?_
  unfold pool_Entry at hq
  simp only [initEnv, List.map_cons, List.map_nil, List.getD_cons_zero, List.getD_cons_succ, List.getD_nil, V.demote]
  rw [wp_seq]
  refine wp_region_i (by rfl) ?_
  simp only [go_sem, ↓evs_eq, Nat.reduceAdd, ↓reduceIte, Nat.reduceEqDiff, Nat.reduceBEq, Nat.reduceBNe, Nat.reduceLT, Int.reduceToNat, Int.reduceEq, Int.reduceLT, Int.reduceLE, reduceCtorEq, Nat.reduceMul, Nat.reduceLeDiff]
  rw [wp_seq]
  refine wp_region_i (by rfl) ?_
  simp only [go_sem, ↓evs_eq, Nat.reduceAdd, ↓reduceIte, Nat.reduceEqDiff, Nat.reduceBEq, Nat.reduceBNe, Nat.reduceLT, Int.reduceToNat, Int.reduceEq, Int.reduceLT, Int.reduceLE, reduceCtorEq, Nat.reduceMul, Nat.reduceLeDiff]
  obtain ⟨K45, hK46, hq⟩ := R.post_cut hq
  refine wire_Read_call (x0 := x0.Options) hq (fun r4 hq => ?_) (fun v hv => ⟨(hX v hv).1, ?_⟩)
  · replace hq := hK46 _ hq
    simp only [go_sem, ↓evs_eq, Nat.reduceAdd, ↓reduceIte, Nat.reduceEqDiff, Nat.reduceBEq, Nat.reduceBNe, Nat.reduceLT, Int.reduceToNat, Int.reduceEq, Int.reduceLT, Int.reduceLE, reduceCtorEq, Nat.reduceMul, Nat.reduceLeDiff]
    refine seq_gen (acall_mono hp) (σ := V × V × V × (List S_api_Raw)) (fun s => [(0, .agg [.str x0.Name, .sl 13 (List.map S_api_Field.enc x0.Fields), .sl 11 (List.map S_api_Message.enc x0.Nested), .sl 4 (List.map S_api_Enum.enc x0.Enums), .sl 2 (List.map S_api_Range.enc x0.Ranges), .sl 13 (List.map S_api_Field.enc x0.Extends), .sl 3 (List.map S_api_Oneof.enc x0.Oneofs), .sl 2 (List.map S_api_Range.enc x0.Reserved), .sl 1 (List.map V.str x0.Words), .sl 1 (List.map byteV x0.Options), .sl 1 (List.map byteV x0.Unknown)]), (1, .ref h.length 0), (2, .ref (h.length + 1) 0), (3, .sl 4 (List.map S_api_Raw.enc r4.1)), (7, s.1), (16, s.2.1), (17, .top), (18, .top), (26, s.2.2.1)]) (fun s => h ++ [.cells 30 [.str x0.Name, .sl 13 (List.map S_api_Field.enc x0.Fields), .sl 11 (List.map S_api_Message.enc x0.Nested), .sl 4 (List.map S_api_Enum.enc x0.Enums), .sl 2 (List.map S_api_Range.enc x0.Ranges), .sl 13 (List.map S_api_Field.enc x0.Extends), .sl 3 (List.map S_api_Oneof.enc x0.Oneofs), .sl 2 (List.map S_api_Range.enc x0.Reserved), .sl 1 (List.map V.str x0.Words), .sl 1 (List.map byteV x0.Options), .sl 1 (List.map byteV x0.Unknown)], .cells 4 [.bool false], .cells 65 [.sl 4 (List.map S_api_Raw.enc s.2.2.2)]]) (fun s => (pool_Entry_j0 s.2.2.2).post KK X) (fun s hq => ?_) (fun N hN19 => ?_)
    · obtain ⟨y7_18, y16_18, y26_18, o2_0_18⟩ := s
      try dsimp only at hq ⊢
      unfold pool_Entry_j0 at hq
      rw [wp_seq]
      refine wp_region_i (by rfl) ?_
      simp only [go_sem, ↓evs_eq, Nat.reduceAdd, ↓reduceIte, Nat.reduceEqDiff, Nat.reduceBEq, Nat.reduceBNe, Nat.reduceLT, Int.reduceToNat, Int.reduceEq, Int.reduceLT, Int.reduceLE, reduceCtorEq, Nat.reduceMul, Nat.reduceLeDiff]
      rw [wp_ret]
      simp only [retQ, results, resultAll, resultOne, Nat.zero_add, scopeQ, go_sem, ↓evs_eq, Nat.reduceAdd, ↓reduceIte, Nat.reduceEqDiff, Nat.reduceBEq, Nat.reduceBNe, Nat.reduceLT, Int.reduceToNat, Int.reduceEq, Int.reduceLT, Int.reduceLE, reduceCtorEq, Nat.reduceMul, Nat.reduceLeDiff]
      refine ⟨_, (.refl _), ?_⟩
      refine leave_ok rfl (.bool _) ?_
      first | exact hK _ hq | (have hz_ := hK _ hq; simp only [List.map_cons, List.map_nil, go_sem, ↓evs_eq, Nat.reduceAdd, ↓reduceIte, Nat.reduceEqDiff, Nat.reduceBEq, Nat.reduceBNe, Nat.reduceLT, Int.reduceToNat, Int.reduceEq, Int.reduceLT, Int.reduceLE, reduceCtorEq, Nat.reduceMul, Nat.reduceLeDiff] at hz_ ⊢; exact hz_)
    · rw [wp_seq]
      refine wp_region_i (by rfl) ?_
      simp only [go_sem, ↓evs_eq, Nat.reduceAdd, ↓reduceIte, Nat.reduceEqDiff, Nat.reduceBEq, Nat.reduceBNe, Nat.reduceLT, Int.reduceToNat, Int.reduceEq, Int.reduceLT, Int.reduceLE, reduceCtorEq, Nat.reduceMul, Nat.reduceLeDiff]
      obtain ⟨K43, hK44, hq⟩ := R.post_cut_sure hq
      refine slices_Backward_apiRaw_call (x0 := r4.1) hq (fun r23 hq => ?_) (fun v hv => hv.elim)
      replace hq := hK44 _ hq
      simp only [go_sem, ↓evs_eq, Nat.reduceAdd, ↓reduceIte, Nat.reduceEqDiff, Nat.reduceBEq, Nat.reduceBNe, Nat.reduceLT, Int.reduceToNat, Int.reduceEq, Int.reduceLT, Int.reduceLE, reduceCtorEq, Nat.reduceMul, Nat.reduceLeDiff]
      rw [wp_block]
      obtain ⟨g40, hq⟩ := R.guard hq
      refine range_in ?_
      refine Wk.same ?_
      obtain ⟨K29, hK30, hq⟩ := R.post_cut hq
      refine range_go 46 [.ref (h.length + 2) 0] (by simp only [go_sem, ↓evs_eq, Nat.reduceAdd, ↓reduceIte, Nat.reduceEqDiff, Nat.reduceBEq, Nat.reduceBNe, Nat.reduceLT, Int.reduceToNat, Int.reduceEq, Int.reduceLT, Int.reduceLE, reduceCtorEq, Nat.reduceMul, Nat.reduceLeDiff]) (by rfl) (backward_it (enc := S_api_Raw.enc) (l := r23) (fun x => ⟨_, _, _, _, rfl⟩) g40 (by first | (simp only [go_sem, ↓evs_eq, Nat.reduceAdd, ↓reduceIte, Nat.reduceEqDiff, Nat.reduceBEq, Nat.reduceBNe, Nat.reduceLT, Int.reduceToNat, Int.reduceEq, Int.reduceLT, Int.reduceLE, reduceCtorEq, Nat.reduceMul, Nat.reduceLeDiff] <;> rfl) | rfl) ⟨_, _, rfl, rfl, ?_⟩)
      refine rounds_gen (ps := [17, 18]) (α := Int × S_api_Raw) (σ := Unit) (fun e24 => []) (fun e24 => [.int .i64 e24.1, .agg [.int .i64 e24.2.Num, .int .i64 e24.2.Kind, .int .u64 e24.2.N, .sl 1 (List.map byteV e24.2.B)]]) (fun s => h ++ [.cells 30 [.str x0.Name, .sl 13 (List.map S_api_Field.enc x0.Fields), .sl 11 (List.map S_api_Message.enc x0.Nested), .sl 4 (List.map S_api_Enum.enc x0.Enums), .sl 2 (List.map S_api_Range.enc x0.Ranges), .sl 13 (List.map S_api_Field.enc x0.Extends), .sl 3 (List.map S_api_Oneof.enc x0.Oneofs), .sl 2 (List.map S_api_Range.enc x0.Reserved), .sl 1 (List.map V.str x0.Words), .sl 1 (List.map byteV x0.Options), .sl 1 (List.map byteV x0.Unknown)], .cells 4 [.bool false], .cells 65 [.sl 4 (List.map S_api_Raw.enc r23)]]) (fun xs_ s => (pool_Entry_r1 xs_).post K29 X) (fun e24 k39 s hq N hN31 => ⟨(by rfl), ?_⟩) (fun s hq => ?_) (revIdx r23) () hq
      · try dsimp only at hq ⊢
        rw [pool_Entry_r1] at hq
        simp only [go_sem, ↓evs_eq, Nat.reduceAdd, ↓reduceIte, Nat.reduceEqDiff, Nat.reduceBEq, Nat.reduceBNe, Nat.reduceLT, Int.reduceToNat, Int.reduceEq, Int.reduceLT, Int.reduceLE, reduceCtorEq, Nat.reduceMul, Nat.reduceLeDiff]
        refine wp_region_i (by rfl) ?_
        simp only [go_sem, ↓evs_eq, Nat.reduceAdd, ↓reduceIte, Nat.reduceEqDiff, Nat.reduceBEq, Nat.reduceBNe, Nat.reduceLT, Int.reduceToNat, Int.reduceEq, Int.reduceLT, Int.reduceLE, reduceCtorEq, Nat.reduceMul, Nat.reduceLeDiff]
        rw [wp_block]
        obtain ⟨K34, hK35, hq⟩ := R.post_cut hq
        refine seq_gen (acall_mono hp) (σ := Bool) (fun s => [(0, .agg [.str x0.Name, .sl 13 (List.map S_api_Field.enc x0.Fields), .sl 11 (List.map S_api_Message.enc x0.Nested), .sl 4 (List.map S_api_Enum.enc x0.Enums), .sl 2 (List.map S_api_Range.enc x0.Ranges), .sl 13 (List.map S_api_Field.enc x0.Extends), .sl 3 (List.map S_api_Oneof.enc x0.Oneofs), .sl 2 (List.map S_api_Range.enc x0.Reserved), .sl 1 (List.map V.str x0.Words), .sl 1 (List.map byteV x0.Options), .sl 1 (List.map byteV x0.Unknown)]), (1, .ref h.length 0), (2, .ref (h.length + 1) 0), (3, .sl 4 (List.map S_api_Raw.enc r4.1)), (7, .ref (h.length + 3) 0), (16, .func (.func 46) [] [.ref (h.length + 2) 0]), (17, .int .i64 e24.1), (18, .agg [.int .i64 e24.2.Num, .int .i64 e24.2.Kind, .int .u64 e24.2.N, .sl 1 (List.map byteV e24.2.B)]), (26, .bool s)]) (fun s => h ++ [.cells 30 [.str x0.Name, .sl 13 (List.map S_api_Field.enc x0.Fields), .sl 11 (List.map S_api_Message.enc x0.Nested), .sl 4 (List.map S_api_Enum.enc x0.Enums), .sl 2 (List.map S_api_Range.enc x0.Ranges), .sl 13 (List.map S_api_Field.enc x0.Extends), .sl 3 (List.map S_api_Oneof.enc x0.Oneofs), .sl 2 (List.map S_api_Range.enc x0.Reserved), .sl 1 (List.map V.str x0.Words), .sl 1 (List.map byteV x0.Options), .sl 1 (List.map byteV x0.Unknown)], .cells 4 [.bool false], .cells 65 [.sl 4 (List.map S_api_Raw.enc r23)], .cells 73 [.int .i64 e24.2.Num, .int .i64 e24.2.Kind, .int .u64 e24.2.N, .sl 1 (List.map byteV e24.2.B)]]) (fun s => K34 s) (fun x26m33 hq => ?_) (fun N hN36 => ?_)
        · replace hq := hK35 _ hq
          try dsimp only at hq ⊢
          rw [wp_cond]
          simp only [go_sem, ↓evs_eq, Nat.reduceAdd, ↓reduceIte, Nat.reduceEqDiff, Nat.reduceBEq, Nat.reduceBNe, Nat.reduceLT, Int.reduceToNat, Int.reduceEq, Int.reduceLT, Int.reduceLE, reduceCtorEq, Nat.reduceMul, Nat.reduceLeDiff]
          by_cases hc38 : x26m33 = true
          · replace hq := (R.post_if hq).1 hc38
            refine condK_t (congrArg V.bool (hc38)) ?_
            rw [wp_seq]
            refine wp_region_i (by rfl) ?_
            simp only [go_sem, ↓evs_eq, Nat.reduceAdd, ↓reduceIte, Nat.reduceEqDiff, Nat.reduceBEq, Nat.reduceBNe, Nat.reduceLT, Int.reduceToNat, Int.reduceEq, Int.reduceLT, Int.reduceLE, reduceCtorEq, Nat.reduceMul, Nat.reduceLeDiff]
            rw [wp_ret]
            simp only [retQ, results, resultAll, resultOne, Nat.zero_add, scopeQ, go_sem, ↓evs_eq, Nat.reduceAdd, ↓reduceIte, Nat.reduceEqDiff, Nat.reduceBEq, Nat.reduceBNe, Nat.reduceLT, Int.reduceToNat, Int.reduceEq, Int.reduceLT, Int.reduceLE, reduceCtorEq, Nat.reduceMul, Nat.reduceLeDiff]
            refine ⟨_, (.refl _), ?_⟩
            refine leave_ok rfl (.bool _) ?_
            replace hq := hK30 _ hq
            first | exact hK _ hq | (have hz_ := hK _ hq; simp only [List.map_cons, List.map_nil, go_sem, ↓evs_eq, Nat.reduceAdd, ↓reduceIte, Nat.reduceEqDiff, Nat.reduceBEq, Nat.reduceBNe, Nat.reduceLT, Int.reduceToNat, Int.reduceEq, Int.reduceLT, Int.reduceLE, reduceCtorEq, Nat.reduceMul, Nat.reduceLeDiff] at hz_ ⊢; exact hz_)
          · replace hq := (R.post_if hq).2 hc38
            replace hc38 := eq_false_of_ne_true hc38
            refine condK_f (congrArg V.bool (hc38)) ?_
            try simp only [wp_skip, RC, roundK_x, roundK_g, roundK_r]
            refine Wk.le (EnvLe.cons (.top _) (EnvLe.cons (.top _) (EnvLe.cons (.top _) (EnvLe.cons (.top _) (EnvLe.cons (.top _) (EnvLe.cons (.top _) (EnvLe.cons (.top _) (EnvLe.cons (.top _) (EnvLe.cons (.top _) EnvLe.nil))))))))) ?_
            try simp only [RC, roundK_x, roundK_g, roundK_r]
            refine Wk.same ?_
            try simp only [RC, roundK_x, roundK_g, roundK_r]
            refine round_end ?_
            refine Wk.drop [.cells 30 [.str x0.Name, .sl 13 (List.map S_api_Field.enc x0.Fields), .sl 11 (List.map S_api_Message.enc x0.Nested), .sl 4 (List.map S_api_Enum.enc x0.Enums), .sl 2 (List.map S_api_Range.enc x0.Ranges), .sl 13 (List.map S_api_Field.enc x0.Extends), .sl 3 (List.map S_api_Oneof.enc x0.Oneofs), .sl 2 (List.map S_api_Range.enc x0.Reserved), .sl 1 (List.map V.str x0.Words), .sl 1 (List.map byteV x0.Options), .sl 1 (List.map byteV x0.Unknown)], .cells 4 [.bool false], .cells 65 [.sl 4 (List.map S_api_Raw.enc r23)]] _ [.cells 73 [.int .i64 e24.2.Num, .int .i64 e24.2.Kind, .int .u64 e24.2.N, .sl 1 (List.map byteV e24.2.B)]] rfl rfl (EnvLe.cons (.refl _) (EnvLe.cons (.refl _) (EnvLe.cons (.refl _) (EnvLe.cons (.refl _) (EnvLe.cons (.refl _) (EnvLe.cons (.refl _) (EnvLe.cons (.refl _) (EnvLe.cons (.refl _) (EnvLe.cons (.refl _) EnvLe.nil))))))))) (EnvCl.cons .top (EnvCl.cons .top (EnvCl.cons .top (EnvCl.cons .top (EnvCl.cons .top (EnvCl.cons .top (EnvCl.cons .top (EnvCl.cons .top (EnvCl.cons .top (EnvCl.nil _)))))))))) (objcl_cons (cl_cons (.str _) (cl_cons (.sl _ _ (cl_map (S_api_Field.cl _))) (cl_cons (.sl _ _ (cl_map (S_api_Message.cl _))) (cl_cons (.sl _ _ (cl_map (S_api_Enum.cl _))) (cl_cons (.sl _ _ (cl_map (S_api_Range.cl _))) (cl_cons (.sl _ _ (cl_map (S_api_Field.cl _))) (cl_cons (.sl _ _ (cl_map (S_api_Oneof.cl _))) (cl_cons (.sl _ _ (cl_map (S_api_Range.cl _))) (cl_cons (.sl _ _ (cl_map (fun x => .str _))) (cl_cons (.sl _ _ (cl_map (fun x => cl_byte x))) (cl_cons (.sl _ _ (cl_map (fun x => cl_byte x))) cl_nil))))))))))) (objcl_cons (cl_cons (.bool _) cl_nil) (objcl_cons (cl_cons (.sl _ _ (cl_map (S_api_Raw.cl _))) cl_nil) objcl_nil))) ?_
            exact ⟨(fun i hi => by simp only [List.mem_cons, List.not_mem_nil, or_false] at hi; rcases hi with rfl <;> simp only [go_sem, ↓evs_eq, Nat.reduceAdd, ↓reduceIte, Nat.reduceEqDiff, Nat.reduceBEq, Nat.reduceBNe, Nat.reduceLT, Int.reduceToNat, Int.reduceEq, Int.reduceLT, Int.reduceLE, reduceCtorEq, Nat.reduceMul, Nat.reduceLeDiff]), hN31 () hq⟩
        · refine wp_region_i (by rfl) ?_
          simp only [go_sem, ↓evs_eq, Nat.reduceAdd, ↓reduceIte, Nat.reduceEqDiff, Nat.reduceBEq, Nat.reduceBNe, Nat.reduceLT, Int.reduceToNat, Int.reduceEq, Int.reduceLT, Int.reduceLE, reduceCtorEq, Nat.reduceMul, Nat.reduceLeDiff]
          by_cases hc37 : e24.2.Num = 7
          · replace hq := (R.post_if hq).1 hc37
            simp only [decide_eq_true hc37, go_sem, ↓evs_eq, Nat.reduceAdd, ↓reduceIte, Nat.reduceEqDiff, Nat.reduceBEq, Nat.reduceBNe, Nat.reduceLT, Int.reduceToNat, Int.reduceEq, Int.reduceLT, Int.reduceLE, reduceCtorEq, Nat.reduceMul, Nat.reduceLeDiff]
            exact hN36 (decide (e24.2.Kind = 0)) hq
          · replace hq := (R.post_if hq).2 hc37
            simp only [decide_eq_false hc37, go_sem, ↓evs_eq, Nat.reduceAdd, ↓reduceIte, Nat.reduceEqDiff, Nat.reduceBEq, Nat.reduceBNe, Nat.reduceLT, Int.reduceToNat, Int.reduceEq, Int.reduceLT, Int.reduceLE, reduceCtorEq, Nat.reduceMul, Nat.reduceLeDiff]
            exact hN36 false hq
      · try dsimp only at hq ⊢
        rw [pool_Entry_r1] at hq
        replace hq := hK30 _ hq
        try dsimp only at hq
        try simp only [RC, roundK_x, roundK_g, roundK_r]
        refine Wk.le (EnvLe.cons (.refl _) (EnvLe.cons (.refl _) (EnvLe.cons (.refl _) (EnvLe.cons (.refl _) (EnvLe.cons (.refl _) (EnvLe.cons (.top _) (EnvLe.cons (.refl _) (EnvLe.cons (.refl _) (EnvLe.cons (.refl _) EnvLe.nil))))))))) ?_
        try simp only [RC, roundK_x, roundK_g, roundK_r]
        exact hN19 (_, _, _, r23) hq
  · simp only [RC, roundK_x, roundK_g, roundK_r, scopeQ, retQ, ↓reduceIte, Bool.false_eq_true]
    exact leaveP_ok ((hX _ hv).1.mono (Nat.zero_le _)) (hX _ hv).2

def glossaryref01_TakeVarint_j0 : R (Int × Int × Int) :=
  R.ok (0, 0, 10)
def glossaryref01_TakeVarint_l1 (x0 : List UInt8) : Nat → Int → Int → R ((Unit) ⊕ (Int × Int × Int))
  | 0, _, _ => R.stuck
  | k + 1, x5_53, x6_53 => (if x6_53 < (List.length x0 : Int) then (R.ok (decide (x6_53 < 10))) else (R.ok false)).bind fun x14m79 => if x14m79 = true then ((if x6_53 = 9 then (if 0 ≤ x6_53 ∧ x6_53 < (List.length x0 : Int) then (R.ok (decide ((1 : Int) < ((gt x0 x6_53).toNat : Int)))) else R.stuck) else (R.ok false)).bind fun x25m88 => if x25m88 = true then (R.ok (.inr (0, 0, 10))) else (if 0 ≤ x6_53 ∧ x6_53 < (List.length x0 : Int) then (if 0 ≤ (IntKind.wrap .u64 (IntKind.wrap .i64 (7 * x6_53))) then (if 0 ≤ x6_53 ∧ x6_53 < (List.length x0 : Int) then (if ((gt x0 x6_53).toNat : Int) < 128 then (R.ok (.inr ((bitsV .or .u64 x5_53 (IntKind.wrap .u64 ((IntKind.wrap .u64 ((u8 (bitsV .and .u8 ((gt x0 x6_53).toNat : Int) 127)).toNat : Int)) * 2 ^ (min (Int.toNat (IntKind.wrap .u64 (IntKind.wrap .i64 (7 * x6_53)))) 64)))), (IntKind.wrap .i64 (x6_53 + 1)), 0))) else (glossaryref01_TakeVarint_l1 x0 k (bitsV .or .u64 x5_53 (IntKind.wrap .u64 ((IntKind.wrap .u64 ((u8 (bitsV .and .u8 ((gt x0 x6_53).toNat : Int) 127)).toNat : Int)) * 2 ^ (min (Int.toNat (IntKind.wrap .u64 (IntKind.wrap .i64 (7 * x6_53)))) 64)))) (IntKind.wrap .i64 (x6_53 + 1)))) else R.stuck) else R.stuck) else R.stuck)) else (R.ok (.inl ()))
def glossaryref01_TakeVarint (x0 : List UInt8) : R (Int × Int × Int) :=
  (glossaryref01_TakeVarint_l1 x0 Many 0 0).bind fun | (.inl _) => glossaryref01_TakeVarint_j0 | (.inr rp111) => R.ok rp111
theorem glossaryref01_TakeVarint_call {h : H} {x0 : List UInt8} {Q : Out → H → Prop} {KK : (Int × Int × Int) → Prop} {X : V → Prop} (hq : (glossaryref01_TakeVarint x0).post KK X) (hK : ∀ r, KK r → Q (.ret (.tup [.int .u64 r.1, .int .i64 r.2.1, .int .i64 r.2.2])) h) (hX : ∀ v, X v → V.Cl 0 v ∧ Q (.panic v) h) : CA qprim 79 [.sl 1 (List.map byteV x0)] h Q := by
  refine acalln hp Try.func79 rfl (by kernel_rfl) (n := 46) rfl (rs := [.tmp 2, .tmp 3, .tmp 4]) rfl [0, 2, 3, 4, 5, 6, 14, 25, 42] [] false (by simp) ?_
  unfold glossaryref01_TakeVarint at hq
  simp only [initEnv, List.map_cons, List.map_nil, List.getD_cons_zero, List.getD_cons_succ, List.getD_nil, V.demote]
  rw [wp_seq]
  refine wp_region_i (by rfl) ?_
  simp only [go_sem, ↓evs_eq, Nat.reduceAdd, ↓reduceIte, Nat.reduceEqDiff, Nat.reduceBEq, Nat.reduceBNe, Nat.reduceLT, Int.reduceToNat, Int.reduceEq, Int.reduceLT, Int.reduceLE, reduceCtorEq, Nat.reduceMul, Nat.reduceLeDiff]
  rw [wp_seq]
  refine wp_region_i (by rfl) ?_
  simp only [go_sem, ↓evs_eq, Nat.reduceAdd, ↓reduceIte, Nat.reduceEqDiff, Nat.reduceBEq, Nat.reduceBNe, Nat.reduceLT, Int.reduceToNat, Int.reduceEq, Int.reduceLT, Int.reduceLE, reduceCtorEq, Nat.reduceMul, Nat.reduceLeDiff]
  refine seq_gen (acall_mono hp) (σ := V × V × V × V × V × V × V × V) (fun s => [(0, .sl 1 (List.map byteV x0)), (2, s.1), (3, s.2.1), (4, s.2.2.1), (5, s.2.2.2.1), (6, s.2.2.2.2.1), (14, s.2.2.2.2.2.1), (25, s.2.2.2.2.2.2.1), (42, s.2.2.2.2.2.2.2)]) (fun s => h) (fun s => (glossaryref01_TakeVarint_j0).post KK X) (fun s hq => ?_) (fun N hN52 => ?_)
  · obtain ⟨y2_51, y3_51, y4_51, y5_51, y6_51, y14_51, y25_51, y42_51⟩ := s
    try dsimp only at hq ⊢
    unfold glossaryref01_TakeVarint_j0 at hq
    rw [wp_seq]
    refine wp_region_i (by rfl) ?_
    simp only [go_sem, ↓evs_eq, Nat.reduceAdd, ↓reduceIte, Nat.reduceEqDiff, Nat.reduceBEq, Nat.reduceBNe, Nat.reduceLT, Int.reduceToNat, Int.reduceEq, Int.reduceLT, Int.reduceLE, reduceCtorEq, Nat.reduceMul, Nat.reduceLeDiff]
    rw [wp_ret]
    simp only [retQ, results, resultAll, resultOne, Nat.zero_add, scopeQ, go_sem, ↓evs_eq, Nat.reduceAdd, ↓reduceIte, Nat.reduceEqDiff, Nat.reduceBEq, Nat.reduceBNe, Nat.reduceLT, Int.reduceToNat, Int.reduceEq, Int.reduceLT, Int.reduceLE, reduceCtorEq, Nat.reduceMul, Nat.reduceLeDiff]
    refine ⟨_, (.refl _), ?_⟩
    first | exact hK _ hq | (have hz_ := hK _ hq; simp only [List.map_cons, List.map_nil, go_sem, ↓evs_eq, Nat.reduceAdd, ↓reduceIte, Nat.reduceEqDiff, Nat.reduceBEq, Nat.reduceBNe, Nat.reduceLT, Int.reduceToNat, Int.reduceEq, Int.reduceLT, Int.reduceLE, reduceCtorEq, Nat.reduceMul, Nat.reduceLeDiff] at hz_ ⊢; exact hz_)
  · rw [wp_seq]
    refine wp_region_i (by rfl) ?_
    simp only [go_sem, ↓evs_eq, Nat.reduceAdd, ↓reduceIte, Nat.reduceEqDiff, Nat.reduceBEq, Nat.reduceBNe, Nat.reduceLT, Int.reduceToNat, Int.reduceEq, Int.reduceLT, Int.reduceLE, reduceCtorEq, Nat.reduceMul, Nat.reduceLeDiff]
    rw [wp_block]
    refine loop_in ?_
    refine Wk.le (EnvLe.cons (.refl _) (EnvLe.cons (.top _) (EnvLe.cons (.top _) (EnvLe.cons (.top _) (EnvLe.cons (.refl _) (EnvLe.cons (.refl _) (EnvLe.cons (.refl _) (EnvLe.cons (.refl _) (EnvLe.cons (.refl _) EnvLe.nil))))))))) ?_
    obtain ⟨K75, hK76, hq⟩ := R.post_cut hq
    refine loop_gen (acall_mono hp) (σ := V × V × V × Int × Int × V × V × V) (fun s => [(0, .sl 1 (List.map byteV x0)), (2, s.1), (3, s.2.1), (4, s.2.2.1), (5, .int .u64 s.2.2.2.1), (6, .int .i64 s.2.2.2.2.1), (14, s.2.2.2.2.2.1), (25, s.2.2.2.2.2.2.1), (42, s.2.2.2.2.2.2.2)]) (fun s => h) (fun k s => (glossaryref01_TakeVarint_l1 x0 k s.2.2.2.1 s.2.2.2.2.1).post K75 X) (fun s hs => hs) (fun k109 s hq N hN77 => ?_) _ (_, _, _, 0, 0, _, _, _) hq
    obtain ⟨y2_53, y3_53, y4_53, x5_53, x6_53, y14_53, y25_53, y42_53⟩ := s
    try dsimp only at hq ⊢
    rw [glossaryref01_TakeVarint_l1] at hq
    rw [wp_seq]
    obtain ⟨K80, hK81, hq⟩ := R.post_cut hq
    refine seq_gen (acall_mono hp) (σ := Bool) (fun s => [(0, .sl 1 (List.map byteV x0)), (2, y2_53), (3, y3_53), (4, y4_53), (5, .int .u64 x5_53), (6, .int .i64 x6_53), (14, .bool s), (25, y25_53), (42, y42_53)]) (fun s => h) (fun s => K80 s) (fun x14m79 hq => ?_) (fun N hN82 => ?_)
    · replace hq := hK81 _ hq
      try dsimp only at hq ⊢
      rw [wp_cond]
      simp only [go_sem, ↓evs_eq, Nat.reduceAdd, ↓reduceIte, Nat.reduceEqDiff, Nat.reduceBEq, Nat.reduceBNe, Nat.reduceLT, Int.reduceToNat, Int.reduceEq, Int.reduceLT, Int.reduceLE, reduceCtorEq, Nat.reduceMul, Nat.reduceLeDiff]
      by_cases hc84 : x14m79 = true
      · replace hq := (R.post_if hq).1 hc84
        refine condK_t (congrArg V.bool (hc84)) ?_
        try simp only [wp_skip, RC, roundK_x, roundK_g, roundK_r]
        refine Wk.same ?_
        try simp only [RC, roundK_x, roundK_g, roundK_r]
        rw [wp_seq]
        rw [wp_block]
        rw [wp_seq]
        obtain ⟨K89, hK90, hq⟩ := R.post_cut hq
        refine seq_gen (acall_mono hp) (σ := Bool) (fun s => [(0, .sl 1 (List.map byteV x0)), (2, y2_53), (3, y3_53), (4, y4_53), (5, .int .u64 x5_53), (6, .int .i64 x6_53), (14, .bool x14m79), (25, .bool s), (42, y42_53)]) (fun s => h) (fun s => K89 s) (fun x25m88 hq => ?_) (fun N hN91 => ?_)
        · replace hq := hK90 _ hq
          try dsimp only at hq ⊢
          rw [wp_cond]
          simp only [go_sem, ↓evs_eq, Nat.reduceAdd, ↓reduceIte, Nat.reduceEqDiff, Nat.reduceBEq, Nat.reduceBNe, Nat.reduceLT, Int.reduceToNat, Int.reduceEq, Int.reduceLT, Int.reduceLE, reduceCtorEq, Nat.reduceMul, Nat.reduceLeDiff]
          by_cases hc95 : x25m88 = true
          · replace hq := (R.post_if hq).1 hc95
            refine condK_t (congrArg V.bool (hc95)) ?_
            rw [wp_seq]
            refine wp_region_i (by rfl) ?_
            simp only [go_sem, ↓evs_eq, Nat.reduceAdd, ↓reduceIte, Nat.reduceEqDiff, Nat.reduceBEq, Nat.reduceBNe, Nat.reduceLT, Int.reduceToNat, Int.reduceEq, Int.reduceLT, Int.reduceLE, reduceCtorEq, Nat.reduceMul, Nat.reduceLeDiff]
            rw [wp_ret]
            simp only [retQ, results, resultAll, resultOne, Nat.zero_add, scopeQ, go_sem, ↓evs_eq, Nat.reduceAdd, ↓reduceIte, Nat.reduceEqDiff, Nat.reduceBEq, Nat.reduceBNe, Nat.reduceLT, Int.reduceToNat, Int.reduceEq, Int.reduceLT, Int.reduceLE, reduceCtorEq, Nat.reduceMul, Nat.reduceLeDiff]
            refine ⟨_, (.refl _), ?_⟩
            replace hq := hK76 _ hq
            first | exact hK _ hq | (have hz_ := hK _ hq; simp only [List.map_cons, List.map_nil, go_sem, ↓evs_eq, Nat.reduceAdd, ↓reduceIte, Nat.reduceEqDiff, Nat.reduceBEq, Nat.reduceBNe, Nat.reduceLT, Int.reduceToNat, Int.reduceEq, Int.reduceLT, Int.reduceLE, reduceCtorEq, Nat.reduceMul, Nat.reduceLeDiff] at hz_ ⊢; exact hz_)
          · replace hq := (R.post_if hq).2 hc95
            replace hc95 := eq_false_of_ne_true hc95
            refine condK_f (congrArg V.bool (hc95)) ?_
            try simp only [wp_skip, RC, roundK_x, roundK_g, roundK_r]
            refine Wk.same ?_
            try simp only [RC, roundK_x, roundK_g, roundK_r]
            rw [wp_seq]
            refine wp_region_i (by rfl) ?_
            obtain ⟨g100, hq⟩ := R.guard hq
            obtain ⟨g103, hq⟩ := R.guard hq
            have e101 := map_gt (f := byteV) (l := x0) (i := x6_53) g100
            have e102 := u8_fix (n := (bitsV .and .u8 ((gt x0 x6_53).toNat : Int) 127)) (bits_u8 _ _ _)
            simp only [e101, e102, go_sem, ↓evs_eq, Nat.reduceAdd, ↓reduceIte, Nat.reduceEqDiff, Nat.reduceBEq, Nat.reduceBNe, Nat.reduceLT, Int.reduceToNat, Int.reduceEq, Int.reduceLT, Int.reduceLE, reduceCtorEq, Nat.reduceMul, Nat.reduceLeDiff]
            repeat (with_reducible refine And.intro (by first | omega | assumption) ?_)
            rw [wp_seq]
            refine wp_region_i (by rfl) ?_
            obtain ⟨g106, hq⟩ := R.guard hq
            have e107 := map_gt (f := byteV) (l := x0) (i := x6_53) g106
            simp only [e107, go_sem, ↓evs_eq, Nat.reduceAdd, ↓reduceIte, Nat.reduceEqDiff, Nat.reduceBEq, Nat.reduceBNe, Nat.reduceLT, Int.reduceToNat, Int.reduceEq, Int.reduceLT, Int.reduceLE, reduceCtorEq, Nat.reduceMul, Nat.reduceLeDiff]
            repeat (with_reducible refine And.intro (by first | omega | assumption) ?_)
            rw [wp_cond]
            simp only [go_sem, ↓evs_eq, Nat.reduceAdd, ↓reduceIte, Nat.reduceEqDiff, Nat.reduceBEq, Nat.reduceBNe, Nat.reduceLT, Int.reduceToNat, Int.reduceEq, Int.reduceLT, Int.reduceLE, reduceCtorEq, Nat.reduceMul, Nat.reduceLeDiff]
            by_cases hc108 : ((gt x0 x6_53).toNat : Int) < 128
            · replace hq := (R.post_if hq).1 hc108
              refine condK_t (congrArg V.bool (decide_eq_true hc108)) ?_
              rw [wp_seq]
              refine wp_region_i (by rfl) ?_
              simp only [go_sem, ↓evs_eq, Nat.reduceAdd, ↓reduceIte, Nat.reduceEqDiff, Nat.reduceBEq, Nat.reduceBNe, Nat.reduceLT, Int.reduceToNat, Int.reduceEq, Int.reduceLT, Int.reduceLE, reduceCtorEq, Nat.reduceMul, Nat.reduceLeDiff]
              rw [wp_ret]
              simp only [retQ, results, resultAll, resultOne, Nat.zero_add, scopeQ, go_sem, ↓evs_eq, Nat.reduceAdd, ↓reduceIte, Nat.reduceEqDiff, Nat.reduceBEq, Nat.reduceBNe, Nat.reduceLT, Int.reduceToNat, Int.reduceEq, Int.reduceLT, Int.reduceLE, reduceCtorEq, Nat.reduceMul, Nat.reduceLeDiff]
              refine ⟨_, (.refl _), ?_⟩
              replace hq := hK76 _ hq
              first | exact hK _ hq | (have hz_ := hK _ hq; simp only [List.map_cons, List.map_nil, go_sem, ↓evs_eq, Nat.reduceAdd, ↓reduceIte, Nat.reduceEqDiff, Nat.reduceBEq, Nat.reduceBNe, Nat.reduceLT, Int.reduceToNat, Int.reduceEq, Int.reduceLT, Int.reduceLE, reduceCtorEq, Nat.reduceMul, Nat.reduceLeDiff] at hz_ ⊢; exact hz_)
            · replace hq := (R.post_if hq).2 hc108
              refine condK_f (congrArg V.bool (decide_eq_false hc108)) ?_
              try simp only [wp_skip, RC, roundK_x, roundK_g, roundK_r]
              refine Wk.same ?_
              try simp only [RC, roundK_x, roundK_g, roundK_r]
              refine Wk.same ?_
              try simp only [RC, roundK_x, roundK_g, roundK_r]
              refine wp_region_i (by rfl) ?_
              simp only [go_sem, ↓evs_eq, Nat.reduceAdd, ↓reduceIte, Nat.reduceEqDiff, Nat.reduceBEq, Nat.reduceBNe, Nat.reduceLT, Int.reduceToNat, Int.reduceEq, Int.reduceLT, Int.reduceLE, reduceCtorEq, Nat.reduceMul, Nat.reduceLeDiff]
              refine Wk.le (EnvLe.cons (.refl _) (EnvLe.cons (.refl _) (EnvLe.cons (.refl _) (EnvLe.cons (.refl _) (EnvLe.cons (.refl _) (EnvLe.cons (.refl _) (EnvLe.cons (.top _) (EnvLe.cons (.top _) (EnvLe.cons (.top _) EnvLe.nil))))))))) ?_
              exact hN77 (_, _, _, (bitsV .or .u64 x5_53 (IntKind.wrap .u64 ((IntKind.wrap .u64 ((u8 (bitsV .and .u8 ((gt x0 x6_53).toNat : Int) 127)).toNat : Int)) * 2 ^ (min (Int.toNat (IntKind.wrap .u64 (IntKind.wrap .i64 (7 * x6_53)))) 64)))), (IntKind.wrap .i64 (x6_53 + 1)), _, _, _) hq
        · refine wp_region_i (by rfl) ?_
          simp only [go_sem, ↓evs_eq, Nat.reduceAdd, ↓reduceIte, Nat.reduceEqDiff, Nat.reduceBEq, Nat.reduceBNe, Nat.reduceLT, Int.reduceToNat, Int.reduceEq, Int.reduceLT, Int.reduceLE, reduceCtorEq, Nat.reduceMul, Nat.reduceLeDiff]
          by_cases hc92 : x6_53 = 9
          · replace hq := (R.post_if hq).1 hc92
            obtain ⟨g93, hq⟩ := R.guard hq
            have e94 := map_gt (f := byteV) (l := x0) (i := x6_53) g93
            simp only [e94, decide_eq_true hc92, go_sem, ↓evs_eq, Nat.reduceAdd, ↓reduceIte, Nat.reduceEqDiff, Nat.reduceBEq, Nat.reduceBNe, Nat.reduceLT, Int.reduceToNat, Int.reduceEq, Int.reduceLT, Int.reduceLE, reduceCtorEq, Nat.reduceMul, Nat.reduceLeDiff]
            repeat (with_reducible refine And.intro (by first | omega | assumption) ?_)
            exact hN91 (decide ((1 : Int) < ((gt x0 x6_53).toNat : Int))) hq
          · replace hq := (R.post_if hq).2 hc92
            simp only [decide_eq_false hc92, go_sem, ↓evs_eq, Nat.reduceAdd, ↓reduceIte, Nat.reduceEqDiff, Nat.reduceBEq, Nat.reduceBNe, Nat.reduceLT, Int.reduceToNat, Int.reduceEq, Int.reduceLT, Int.reduceLE, reduceCtorEq, Nat.reduceMul, Nat.reduceLeDiff]
            exact hN91 false hq
      · replace hq := (R.post_if hq).2 hc84
        replace hc84 := eq_false_of_ne_true hc84
        refine condK_f (congrArg V.bool (hc84)) ?_
        rw [wp_exit]
        try simp only [↓reduceIte, Nat.reduceEqDiff, reduceCtorEq, if_false, if_true, eq_self, Nat.succ_ne_self, RC, roundK_x, roundK_g, roundK_r]
        replace hq := hK76 _ hq
        try dsimp only at hq
        refine Wk.le (EnvLe.cons (.refl _) (EnvLe.cons (.refl _) (EnvLe.cons (.refl _) (EnvLe.cons (.refl _) (EnvLe.cons (.top _) (EnvLe.cons (.top _) (EnvLe.cons (.top _) (EnvLe.cons (.refl _) (EnvLe.cons (.refl _) EnvLe.nil))))))))) ?_
        try simp only [RC, roundK_x, roundK_g, roundK_r]
        exact hN52 (_, _, _, _, _, _, _, _) hq
    · refine wp_region_i (by rfl) ?_
      simp only [go_sem, ↓evs_eq, Nat.reduceAdd, ↓reduceIte, Nat.reduceEqDiff, Nat.reduceBEq, Nat.reduceBNe, Nat.reduceLT, Int.reduceToNat, Int.reduceEq, Int.reduceLT, Int.reduceLE, reduceCtorEq, Nat.reduceMul, Nat.reduceLeDiff]
      by_cases hc83 : x6_53 < (List.length x0 : Int)
      · replace hq := (R.post_if hq).1 hc83
        simp only [decide_eq_true hc83, go_sem, ↓evs_eq, Nat.reduceAdd, ↓reduceIte, Nat.reduceEqDiff, Nat.reduceBEq, Nat.reduceBNe, Nat.reduceLT, Int.reduceToNat, Int.reduceEq, Int.reduceLT, Int.reduceLE, reduceCtorEq, Nat.reduceMul, Nat.reduceLeDiff]
        exact hN82 (decide (x6_53 < 10)) hq
      · replace hq := (R.post_if hq).2 hc83
        simp only [decide_eq_false hc83, go_sem, ↓evs_eq, Nat.reduceAdd, ↓reduceIte, Nat.reduceEqDiff, Nat.reduceBEq, Nat.reduceBNe, Nat.reduceLT, Int.reduceToNat, Int.reduceEq, Int.reduceLT, Int.reduceLE, reduceCtorEq, Nat.reduceMul, Nat.reduceLeDiff]
        exact hN82 false hq

def glossaryref01_kind (x0 : Int) : R (Bool) :=
  (if x0 = 0 then (R.ok true) else (if x0 = 1 then (R.ok true) else (if x0 = 2 then (R.ok true) else (R.ok (decide (x0 = 5)))))).bind fun x2m4 => R.ok x2m4
theorem glossaryref01_kind_call {h : H} {x0 : Int} {Q : Out → H → Prop} {KK : (Bool) → Prop} {X : V → Prop} (hq : (glossaryref01_kind x0).post KK X) (hK : ∀ r, KK r → Q (.ret (.bool r)) h) (hX : ∀ v, X v → V.Cl 0 v ∧ Q (.panic v) h) : CA qprim 80 [.int .i64 x0] h Q := by
  refine acalln hp Try.func80 rfl (by kernel_rfl) (n := 17) rfl (rs := [.tmp 2]) rfl [0, 2] [] false (by simp) ?_
  unfold glossaryref01_kind at hq
  simp only [initEnv, List.map_cons, List.map_nil, List.getD_cons_zero, List.getD_cons_succ, List.getD_nil, V.demote]
  rw [wp_seq]
  refine wp_region_i (by rfl) ?_
  simp only [go_sem, ↓evs_eq, Nat.reduceAdd, ↓reduceIte, Nat.reduceEqDiff, Nat.reduceBEq, Nat.reduceBNe, Nat.reduceLT, Int.reduceToNat, Int.reduceEq, Int.reduceLT, Int.reduceLE, reduceCtorEq, Nat.reduceMul, Nat.reduceLeDiff]
  obtain ⟨K5, hK6, hq⟩ := R.post_cut hq
  refine seq_gen (acall_mono hp) (σ := Bool) (fun s => [(0, .int .i64 x0), (2, .bool s)]) (fun s => h) (fun s => K5 s) (fun x2m4 hq => ?_) (fun N hN7 => ?_)
  · replace hq := hK6 _ hq
    try dsimp only at hq ⊢
    rw [wp_ret]
    simp only [retQ, results, resultAll, resultOne, Nat.zero_add, scopeQ, go_sem, ↓evs_eq, Nat.reduceAdd, ↓reduceIte, Nat.reduceEqDiff, Nat.reduceBEq, Nat.reduceBNe, Nat.reduceLT, Int.reduceToNat, Int.reduceEq, Int.reduceLT, Int.reduceLE, reduceCtorEq, Nat.reduceMul, Nat.reduceLeDiff]
    refine ⟨_, (.refl _), ?_⟩
    first | exact hK _ hq | (have hz_ := hK _ hq; simp only [List.map_cons, List.map_nil, go_sem, ↓evs_eq, Nat.reduceAdd, ↓reduceIte, Nat.reduceEqDiff, Nat.reduceBEq, Nat.reduceBNe, Nat.reduceLT, Int.reduceToNat, Int.reduceEq, Int.reduceLT, Int.reduceLE, reduceCtorEq, Nat.reduceMul, Nat.reduceLeDiff] at hz_ ⊢; exact hz_)
  · refine wp_region_i (by rfl) ?_
    simp only [go_sem, ↓evs_eq, Nat.reduceAdd, ↓reduceIte, Nat.reduceEqDiff, Nat.reduceBEq, Nat.reduceBNe, Nat.reduceLT, Int.reduceToNat, Int.reduceEq, Int.reduceLT, Int.reduceLE, reduceCtorEq, Nat.reduceMul, Nat.reduceLeDiff]
    by_cases hc8 : x0 = 0
    · replace hq := (R.post_if hq).1 hc8
      simp only [decide_eq_true hc8, go_sem, ↓evs_eq, Nat.reduceAdd, ↓reduceIte, Nat.reduceEqDiff, Nat.reduceBEq, Nat.reduceBNe, Nat.reduceLT, Int.reduceToNat, Int.reduceEq, Int.reduceLT, Int.reduceLE, reduceCtorEq, Nat.reduceMul, Nat.reduceLeDiff]
      exact hN7 true hq
    · replace hq := (R.post_if hq).2 hc8
      simp only [decide_eq_false hc8, go_sem, ↓evs_eq, Nat.reduceAdd, ↓reduceIte, Nat.reduceEqDiff, Nat.reduceBEq, Nat.reduceBNe, Nat.reduceLT, Int.reduceToNat, Int.reduceEq, Int.reduceLT, Int.reduceLE, reduceCtorEq, Nat.reduceMul, Nat.reduceLeDiff]
      by_cases hc9 : x0 = 1
      · replace hq := (R.post_if hq).1 hc9
        simp only [decide_eq_true hc9, go_sem, ↓evs_eq, Nat.reduceAdd, ↓reduceIte, Nat.reduceEqDiff, Nat.reduceBEq, Nat.reduceBNe, Nat.reduceLT, Int.reduceToNat, Int.reduceEq, Int.reduceLT, Int.reduceLE, reduceCtorEq, Nat.reduceMul, Nat.reduceLeDiff]
        exact hN7 true hq
      · replace hq := (R.post_if hq).2 hc9
        simp only [decide_eq_false hc9, go_sem, ↓evs_eq, Nat.reduceAdd, ↓reduceIte, Nat.reduceEqDiff, Nat.reduceBEq, Nat.reduceBNe, Nat.reduceLT, Int.reduceToNat, Int.reduceEq, Int.reduceLT, Int.reduceLE, reduceCtorEq, Nat.reduceMul, Nat.reduceLeDiff]
        by_cases hc10 : x0 = 2
        · replace hq := (R.post_if hq).1 hc10
          simp only [decide_eq_true hc10, go_sem, ↓evs_eq, Nat.reduceAdd, ↓reduceIte, Nat.reduceEqDiff, Nat.reduceBEq, Nat.reduceBNe, Nat.reduceLT, Int.reduceToNat, Int.reduceEq, Int.reduceLT, Int.reduceLE, reduceCtorEq, Nat.reduceMul, Nat.reduceLeDiff]
          exact hN7 true hq
        · replace hq := (R.post_if hq).2 hc10
          simp only [decide_eq_false hc10, go_sem, ↓evs_eq, Nat.reduceAdd, ↓reduceIte, Nat.reduceEqDiff, Nat.reduceBEq, Nat.reduceBNe, Nat.reduceLT, Int.reduceToNat, Int.reduceEq, Int.reduceLT, Int.reduceLE, reduceCtorEq, Nat.reduceMul, Nat.reduceLeDiff]
          exact hN7 (decide (x0 = 5)) hq

def glossaryref01_Unfixed_j0 (x3_21 : Int) : R (Int) :=
  R.ok x3_21
def glossaryref01_Unfixed_l1 (x0 : List UInt8) : Nat → Int → Int → R (Int)
  | 0, _, _ => R.stuck
  | k + 1, x3_23, x4_23 => (if x4_23 < (List.length x0 : Int) then (R.ok (decide (x4_23 < 8))) else (R.ok false)).bind fun x12m37 => if x12m37 = true then (if 0 ≤ x4_23 ∧ x4_23 < (List.length x0 : Int) then (if 0 ≤ (IntKind.wrap .u64 (IntKind.wrap .i64 (8 * x4_23))) then (glossaryref01_Unfixed_l1 x0 k (bitsV .or .u64 x3_23 (IntKind.wrap .u64 ((IntKind.wrap .u64 ((gt x0 x4_23).toNat : Int)) * 2 ^ (min (Int.toNat (IntKind.wrap .u64 (IntKind.wrap .i64 (8 * x4_23)))) 64)))) (IntKind.wrap .i64 (x4_23 + 1))) else R.stuck) else R.stuck) else (R.ok x3_23)
def glossaryref01_Unfixed (x0 : List UInt8) : R (Int) :=
  (glossaryref01_Unfixed_l1 x0 Many 0 0).bind fun x3p50 => glossaryref01_Unfixed_j0 x3p50
theorem glossaryref01_Unfixed_call {h : H} {x0 : List UInt8} {Q : Out → H → Prop} {KK : (Int) → Prop} {X : V → Prop} (hq : (glossaryref01_Unfixed x0).post KK X) (hK : ∀ r, KK r → Q (.ret (.int .u64 r)) h) (hX : ∀ v, X v → V.Cl 0 v ∧ Q (.panic v) h) : CA qprim 81 [.sl 1 (List.map byteV x0)] h Q := by
  refine acalln hp Try.func81 rfl (by kernel_rfl) (n := 27) rfl (rs := [.tmp 2]) rfl [0, 2, 3, 4, 12] [] false (by simp) ?_
  unfold glossaryref01_Unfixed at hq
  simp only [initEnv, List.map_cons, List.map_nil, List.getD_cons_zero, List.getD_cons_succ, List.getD_nil, V.demote]
  rw [wp_seq]
  refine wp_region_i (by rfl) ?_
  simp only [go_sem, ↓evs_eq, Nat.reduceAdd, ↓reduceIte, Nat.reduceEqDiff, Nat.reduceBEq, Nat.reduceBNe, Nat.reduceLT, Int.reduceToNat, Int.reduceEq, Int.reduceLT, Int.reduceLE, reduceCtorEq, Nat.reduceMul, Nat.reduceLeDiff]
  rw [wp_seq]
  refine wp_region_i (by rfl) ?_
  simp only [go_sem, ↓evs_eq, Nat.reduceAdd, ↓reduceIte, Nat.reduceEqDiff, Nat.reduceBEq, Nat.reduceBNe, Nat.reduceLT, Int.reduceToNat, Int.reduceEq, Int.reduceLT, Int.reduceLE, reduceCtorEq, Nat.reduceMul, Nat.reduceLeDiff]
  refine seq_gen (acall_mono hp) (σ := Int × V × V) (fun s => [(0, .sl 1 (List.map byteV x0)), (2, .int .u64 0), (3, .int .u64 s.1), (4, s.2.1), (12, s.2.2)]) (fun s => h) (fun s => (glossaryref01_Unfixed_j0 s.1).post KK X) (fun s hq => ?_) (fun N hN22 => ?_)
  · obtain ⟨x3_21, y4_21, y12_21⟩ := s
    try dsimp only at hq ⊢
    unfold glossaryref01_Unfixed_j0 at hq
    rw [wp_seq]
    refine wp_region_i (by rfl) ?_
    simp only [go_sem, ↓evs_eq, Nat.reduceAdd, ↓reduceIte, Nat.reduceEqDiff, Nat.reduceBEq, Nat.reduceBNe, Nat.reduceLT, Int.reduceToNat, Int.reduceEq, Int.reduceLT, Int.reduceLE, reduceCtorEq, Nat.reduceMul, Nat.reduceLeDiff]
    rw [wp_ret]
    simp only [retQ, results, resultAll, resultOne, Nat.zero_add, scopeQ, go_sem, ↓evs_eq, Nat.reduceAdd, ↓reduceIte, Nat.reduceEqDiff, Nat.reduceBEq, Nat.reduceBNe, Nat.reduceLT, Int.reduceToNat, Int.reduceEq, Int.reduceLT, Int.reduceLE, reduceCtorEq, Nat.reduceMul, Nat.reduceLeDiff]
    refine ⟨_, (.refl _), ?_⟩
    first | exact hK _ hq | (have hz_ := hK _ hq; simp only [List.map_cons, List.map_nil, go_sem, ↓evs_eq, Nat.reduceAdd, ↓reduceIte, Nat.reduceEqDiff, Nat.reduceBEq, Nat.reduceBNe, Nat.reduceLT, Int.reduceToNat, Int.reduceEq, Int.reduceLT, Int.reduceLE, reduceCtorEq, Nat.reduceMul, Nat.reduceLeDiff] at hz_ ⊢; exact hz_)
  · rw [wp_seq]
    refine wp_region_i (by rfl) ?_
    simp only [go_sem, ↓evs_eq, Nat.reduceAdd, ↓reduceIte, Nat.reduceEqDiff, Nat.reduceBEq, Nat.reduceBNe, Nat.reduceLT, Int.reduceToNat, Int.reduceEq, Int.reduceLT, Int.reduceLE, reduceCtorEq, Nat.reduceMul, Nat.reduceLeDiff]
    rw [wp_block]
    refine loop_in ?_
    refine Wk.same ?_
    obtain ⟨K33, hK34, hq⟩ := R.post_cut hq
    refine loop_gen (acall_mono hp) (σ := Int × Int × V) (fun s => [(0, .sl 1 (List.map byteV x0)), (2, .int .u64 0), (3, .int .u64 s.1), (4, .int .i64 s.2.1), (12, s.2.2)]) (fun s => h) (fun k s => (glossaryref01_Unfixed_l1 x0 k s.1 s.2.1).post K33 X) (fun s hs => hs) (fun k49 s hq N hN35 => ?_) _ (0, 0, _) hq
    obtain ⟨x3_23, x4_23, y12_23⟩ := s
    try dsimp only at hq ⊢
    rw [glossaryref01_Unfixed_l1] at hq
    rw [wp_seq]
    obtain ⟨K38, hK39, hq⟩ := R.post_cut hq
    refine seq_gen (acall_mono hp) (σ := Bool) (fun s => [(0, .sl 1 (List.map byteV x0)), (2, .int .u64 0), (3, .int .u64 x3_23), (4, .int .i64 x4_23), (12, .bool s)]) (fun s => h) (fun s => K38 s) (fun x12m37 hq => ?_) (fun N hN40 => ?_)
    · replace hq := hK39 _ hq
      try dsimp only at hq ⊢
      rw [wp_cond]
      simp only [go_sem, ↓evs_eq, Nat.reduceAdd, ↓reduceIte, Nat.reduceEqDiff, Nat.reduceBEq, Nat.reduceBNe, Nat.reduceLT, Int.reduceToNat, Int.reduceEq, Int.reduceLT, Int.reduceLE, reduceCtorEq, Nat.reduceMul, Nat.reduceLeDiff]
      by_cases hc42 : x12m37 = true
      · replace hq := (R.post_if hq).1 hc42
        refine condK_t (congrArg V.bool (hc42)) ?_
        try simp only [wp_skip, RC, roundK_x, roundK_g, roundK_r]
        refine Wk.same ?_
        try simp only [RC, roundK_x, roundK_g, roundK_r]
        rw [wp_seq]
        rw [wp_block]
        refine wp_region_i (by rfl) ?_
        obtain ⟨g46, hq⟩ := R.guard hq
        obtain ⟨g48, hq⟩ := R.guard hq
        have e47 := map_gt (f := byteV) (l := x0) (i := x4_23) g46
        simp only [e47, go_sem, ↓evs_eq, Nat.reduceAdd, ↓reduceIte, Nat.reduceEqDiff, Nat.reduceBEq, Nat.reduceBNe, Nat.reduceLT, Int.reduceToNat, Int.reduceEq, Int.reduceLT, Int.reduceLE, reduceCtorEq, Nat.reduceMul, Nat.reduceLeDiff]
        repeat (with_reducible refine And.intro (by first | omega | assumption) ?_)
        refine Wk.same ?_
        try simp only [RC, roundK_x, roundK_g, roundK_r]
        refine wp_region_i (by rfl) ?_
        simp only [go_sem, ↓evs_eq, Nat.reduceAdd, ↓reduceIte, Nat.reduceEqDiff, Nat.reduceBEq, Nat.reduceBNe, Nat.reduceLT, Int.reduceToNat, Int.reduceEq, Int.reduceLT, Int.reduceLE, reduceCtorEq, Nat.reduceMul, Nat.reduceLeDiff]
        refine Wk.le (EnvLe.cons (.refl _) (EnvLe.cons (.refl _) (EnvLe.cons (.refl _) (EnvLe.cons (.refl _) (EnvLe.cons (.top _) EnvLe.nil))))) ?_
        exact hN35 ((bitsV .or .u64 x3_23 (IntKind.wrap .u64 ((IntKind.wrap .u64 ((gt x0 x4_23).toNat : Int)) * 2 ^ (min (Int.toNat (IntKind.wrap .u64 (IntKind.wrap .i64 (8 * x4_23)))) 64)))), (IntKind.wrap .i64 (x4_23 + 1)), _) hq
      · replace hq := (R.post_if hq).2 hc42
        replace hc42 := eq_false_of_ne_true hc42
        refine condK_f (congrArg V.bool (hc42)) ?_
        rw [wp_exit]
        try simp only [↓reduceIte, Nat.reduceEqDiff, reduceCtorEq, if_false, if_true, eq_self, Nat.succ_ne_self, RC, roundK_x, roundK_g, roundK_r]
        replace hq := hK34 _ hq
        try dsimp only at hq
        refine Wk.le (EnvLe.cons (.refl _) (EnvLe.cons (.refl _) (EnvLe.cons (.refl _) (EnvLe.cons (.top _) (EnvLe.cons (.top _) EnvLe.nil))))) ?_
        try simp only [RC, roundK_x, roundK_g, roundK_r]
        exact hN22 (x3_23, _, _) hq
    · refine wp_region_i (by rfl) ?_
      simp only [go_sem, ↓evs_eq, Nat.reduceAdd, ↓reduceIte, Nat.reduceEqDiff, Nat.reduceBEq, Nat.reduceBNe, Nat.reduceLT, Int.reduceToNat, Int.reduceEq, Int.reduceLT, Int.reduceLE, reduceCtorEq, Nat.reduceMul, Nat.reduceLeDiff]
      by_cases hc41 : x4_23 < (List.length x0 : Int)
      · replace hq := (R.post_if hq).1 hc41
        simp only [decide_eq_true hc41, go_sem, ↓evs_eq, Nat.reduceAdd, ↓reduceIte, Nat.reduceEqDiff, Nat.reduceBEq, Nat.reduceBNe, Nat.reduceLT, Int.reduceToNat, Int.reduceEq, Int.reduceLT, Int.reduceLE, reduceCtorEq, Nat.reduceMul, Nat.reduceLeDiff]
        exact hN40 (decide (x4_23 < 8)) hq
      · replace hq := (R.post_if hq).2 hc41
        simp only [decide_eq_false hc41, go_sem, ↓evs_eq, Nat.reduceAdd, ↓reduceIte, Nat.reduceEqDiff, Nat.reduceBEq, Nat.reduceBNe, Nat.reduceLT, Int.reduceToNat, Int.reduceEq, Int.reduceLT, Int.reduceLE, reduceCtorEq, Nat.reduceMul, Nat.reduceLeDiff]
        exact hN40 false hq
end Go.Proofs.Ytpbnnbjkjaajnaa.Pv
