/- Functions of the program, as plain Lean functions, and that the code comes to them: printed by gen.py. -/
import Derived.Test.YtiigffdmjdooeaaGreatDoorG1
set_option linter.unusedVariables false
set_option linter.unusedSimpArgs false
set_option maxHeartbeats 4000000
set_option maxRecDepth 10000
namespace Go.Proofs.YtiigffdmjdooeaaGreatDoor.Pv
open Go Go.Proofs

attribute [local go_sem] RC RL RM loadN V.slz V.slz1 lnB V.left V.lenOf slice3 sliceNil Option.getD_none Option.getD_some sliceOp cut upon_each nextM entryOp buildOk lookup lookV update elemOf Option.isSome_map unOp wanted aop tkB rwB neD Env.get Env.put Env.keep putD dstOk ev constV nilSlice V.demote V.toOwn V.asOwn V.cells tyE R1.res binOp isShift binOpT isC intOp strOp shiftOp byteV index indexAddr slice bounds hiB loB withB maxV minV evs pickV lenV builtin initEnv convert K.isU8 strOf load store fieldOf append appT fltOp cpxV realV imagV toInt rangeOp nextOp room fill placeOf splice repl chunks Ty.val Ty.agg V.plain H.row H.ety AObj.row
def glossaryref13_Bits_j0 (x16_29 : Bool) : R (Int × Bool) :=
  if x16_29 = true then (R.ok (64, false)) else (R.ok (0, false))
def glossaryref13_Bits_j1 (x0 : Int) (x13_26 : Bool) : R (Int × Bool) :=
  if x13_26 = true then (R.ok (32, false)) else (if x0 = 4 then (glossaryref13_Bits_j0 (decide (x0 = 4))) else (glossaryref13_Bits_j0 (decide (x0 = 6))))
def glossaryref13_Bits_j2 (x0 : Int) (x9_23 : Bool) : R (Int × Bool) :=
  if x9_23 = true then (R.ok (64, true)) else (if x0 = 13 then (glossaryref13_Bits_j1 x0 (decide (x0 = 13))) else (glossaryref13_Bits_j1 x0 (decide (x0 = 7))))
def glossaryref13_Bits_j3 (x0 : Int) (x5_21 : Bool) : R (Int × Bool) :=
  if x5_21 = true then (R.ok (32, true)) else (if x0 = 3 then (glossaryref13_Bits_j2 x0 (decide (x0 = 3))) else (if x0 = 18 then (glossaryref13_Bits_j2 x0 (decide (x0 = 18))) else (glossaryref13_Bits_j2 x0 (decide (x0 = 16)))))
def glossaryref13_Bits (x0 : Int) : R (Int × Bool) :=
  if x0 = 5 then (glossaryref13_Bits_j3 x0 (decide (x0 = 5))) else (if x0 = 17 then (glossaryref13_Bits_j3 x0 (decide (x0 = 17))) else (glossaryref13_Bits_j3 x0 (decide (x0 = 15))))
theorem glossaryref13_Bits_call {h : H} {x0 : Int} {Q : Out → H → Prop} {KK : (Int × Bool) → Prop} {X : V → Prop} (hq : (glossaryref13_Bits x0).post KK X) (hK : ∀ r, KK r → Q (.ret (.tup [.int .i64 r.1, .bool r.2])) h) (hX : ∀ v, X v → V.Cl 0 v ∧ Q (.panic v) h) : CA qprim 18 [.int .i64 x0] h Q := by
  refine acalln hp Tryz.func18 rfl (by kernel_rfl) (n := 19) rfl (rs := [.tmp 2, .tmp 3]) rfl [0, 2, 3, 4, 5, 9, 13, 16] [] false (by simp) ?_
  unfold glossaryref13_Bits at hq
  simp only [initEnv, List.map_cons, List.map_nil, List.getD_cons_zero, List.getD_cons_succ, List.getD_nil, V.demote]
  rw [wp_seq]
  refine wp_region_i (by rfl) ?_
  simp only [go_sem, ↓evs_eq, Nat.reduceAdd, ↓reduceIte, Nat.reduceEqDiff, Nat.reduceBEq, Nat.reduceBNe, Nat.reduceLT, Int.reduceToNat, Int.reduceEq, Int.reduceLT, Int.reduceLE, reduceCtorEq, Nat.reduceMul, Nat.reduceLeDiff, S_api_Node.enc_eq]
  rw [wp_seq]
  rw [wp_seq]
  refine wp_region_i (by rfl) ?_
  simp only [go_sem, ↓evs_eq, Nat.reduceAdd, ↓reduceIte, Nat.reduceEqDiff, Nat.reduceBEq, Nat.reduceBNe, Nat.reduceLT, Int.reduceToNat, Int.reduceEq, Int.reduceLT, Int.reduceLE, reduceCtorEq, Nat.reduceMul, Nat.reduceLeDiff, S_api_Node.enc_eq]
  rw [wp_block]
  refine seq_gen (acall_mono hp) (σ := Bool) (fun s => [(0, .int .i64 x0), (2, .int .i64 0), (3, .bool false), (4, .int .i64 x0), (5, .bool s), (9, .top), (13, .top), (16, .top)]) (fun s => h) (fun s => (glossaryref13_Bits_j3 x0 s).post KK X) (fun x5_21 hq => ?_) (fun N hN38 => ?_)
  · try dsimp only at hq ⊢
    unfold glossaryref13_Bits_j3 at hq
    rw [wp_cond]
    simp only [go_sem, ↓evs_eq, Nat.reduceAdd, ↓reduceIte, Nat.reduceEqDiff, Nat.reduceBEq, Nat.reduceBNe, Nat.reduceLT, Int.reduceToNat, Int.reduceEq, Int.reduceLT, Int.reduceLE, reduceCtorEq, Nat.reduceMul, Nat.reduceLeDiff, S_api_Node.enc_eq]
    by_cases hc22 : x5_21 = true
    · replace hq := (R.post_if hq).1 hc22
      refine condK_t (congrArg V.bool (hc22)) ?_
      rw [wp_seq]
      refine wp_region_i (by rfl) ?_
      simp only [go_sem, ↓evs_eq, Nat.reduceAdd, ↓reduceIte, Nat.reduceEqDiff, Nat.reduceBEq, Nat.reduceBNe, Nat.reduceLT, Int.reduceToNat, Int.reduceEq, Int.reduceLT, Int.reduceLE, reduceCtorEq, Nat.reduceMul, Nat.reduceLeDiff, S_api_Node.enc_eq]
      rw [wp_ret]
      simp only [retQ, results, resultAll, resultOne, Nat.zero_add, scopeQ, go_sem, ↓evs_eq, Nat.reduceAdd, ↓reduceIte, Nat.reduceEqDiff, Nat.reduceBEq, Nat.reduceBNe, Nat.reduceLT, Int.reduceToNat, Int.reduceEq, Int.reduceLT, Int.reduceLE, reduceCtorEq, Nat.reduceMul, Nat.reduceLeDiff, S_api_Node.enc_eq]
      refine ⟨_, (.refl _), ?_⟩
      exact hK _ hq
    · replace hq := (R.post_if hq).2 hc22
      replace hc22 := eq_false_of_ne_true hc22
      refine condK_f (congrArg V.bool (hc22)) ?_
      refine seq_gen (acall_mono hp) (σ := V × Bool) (fun s => [(0, .int .i64 x0), (2, .int .i64 0), (3, .bool false), (4, .int .i64 x0), (5, s.1), (9, .bool s.2), (13, .top), (16, .top)]) (fun s => h) (fun s => (glossaryref13_Bits_j2 x0 s.2).post KK X) (fun s hq => ?_) (fun N hN35 => ?_)
      · obtain ⟨y5_23, x9_23⟩ := s
        try dsimp only at hq ⊢
        unfold glossaryref13_Bits_j2 at hq
        rw [wp_cond]
        simp only [go_sem, ↓evs_eq, Nat.reduceAdd, ↓reduceIte, Nat.reduceEqDiff, Nat.reduceBEq, Nat.reduceBNe, Nat.reduceLT, Int.reduceToNat, Int.reduceEq, Int.reduceLT, Int.reduceLE, reduceCtorEq, Nat.reduceMul, Nat.reduceLeDiff, S_api_Node.enc_eq]
        by_cases hc24 : x9_23 = true
        · replace hq := (R.post_if hq).1 hc24
          refine condK_t (congrArg V.bool (hc24)) ?_
          rw [wp_seq]
          refine wp_region_i (by rfl) ?_
          simp only [go_sem, ↓evs_eq, Nat.reduceAdd, ↓reduceIte, Nat.reduceEqDiff, Nat.reduceBEq, Nat.reduceBNe, Nat.reduceLT, Int.reduceToNat, Int.reduceEq, Int.reduceLT, Int.reduceLE, reduceCtorEq, Nat.reduceMul, Nat.reduceLeDiff, S_api_Node.enc_eq]
          rw [wp_ret]
          simp only [retQ, results, resultAll, resultOne, Nat.zero_add, scopeQ, go_sem, ↓evs_eq, Nat.reduceAdd, ↓reduceIte, Nat.reduceEqDiff, Nat.reduceBEq, Nat.reduceBNe, Nat.reduceLT, Int.reduceToNat, Int.reduceEq, Int.reduceLT, Int.reduceLE, reduceCtorEq, Nat.reduceMul, Nat.reduceLeDiff, S_api_Node.enc_eq]
          refine ⟨_, (.refl _), ?_⟩
          exact hK _ hq
        · replace hq := (R.post_if hq).2 hc24
          replace hc24 := eq_false_of_ne_true hc24
          refine condK_f (congrArg V.bool (hc24)) ?_
          refine seq_gen (acall_mono hp) (σ := Bool) (fun s => [(0, .int .i64 x0), (2, .int .i64 0), (3, .bool false), (4, .int .i64 x0), (5, y5_23), (9, .bool x9_23), (13, .bool s), (16, .top)]) (fun s => h) (fun s => (glossaryref13_Bits_j1 x0 s).post KK X) (fun x13_26 hq => ?_) (fun N hN33 => ?_)
          · try dsimp only at hq ⊢
            unfold glossaryref13_Bits_j1 at hq
            rw [wp_cond]
            simp only [go_sem, ↓evs_eq, Nat.reduceAdd, ↓reduceIte, Nat.reduceEqDiff, Nat.reduceBEq, Nat.reduceBNe, Nat.reduceLT, Int.reduceToNat, Int.reduceEq, Int.reduceLT, Int.reduceLE, reduceCtorEq, Nat.reduceMul, Nat.reduceLeDiff, S_api_Node.enc_eq]
            by_cases hc27 : x13_26 = true
            · replace hq := (R.post_if hq).1 hc27
              refine condK_t (congrArg V.bool (hc27)) ?_
              rw [wp_seq]
              refine wp_region_i (by rfl) ?_
              simp only [go_sem, ↓evs_eq, Nat.reduceAdd, ↓reduceIte, Nat.reduceEqDiff, Nat.reduceBEq, Nat.reduceBNe, Nat.reduceLT, Int.reduceToNat, Int.reduceEq, Int.reduceLT, Int.reduceLE, reduceCtorEq, Nat.reduceMul, Nat.reduceLeDiff, S_api_Node.enc_eq]
              rw [wp_ret]
              simp only [retQ, results, resultAll, resultOne, Nat.zero_add, scopeQ, go_sem, ↓evs_eq, Nat.reduceAdd, ↓reduceIte, Nat.reduceEqDiff, Nat.reduceBEq, Nat.reduceBNe, Nat.reduceLT, Int.reduceToNat, Int.reduceEq, Int.reduceLT, Int.reduceLE, reduceCtorEq, Nat.reduceMul, Nat.reduceLeDiff, S_api_Node.enc_eq]
              refine ⟨_, (.refl _), ?_⟩
              exact hK _ hq
            · replace hq := (R.post_if hq).2 hc27
              replace hc27 := eq_false_of_ne_true hc27
              refine condK_f (congrArg V.bool (hc27)) ?_
              refine seq_gen (acall_mono hp) (σ := Bool) (fun s => [(0, .int .i64 x0), (2, .int .i64 0), (3, .bool false), (4, .int .i64 x0), (5, y5_23), (9, .bool x9_23), (13, .bool x13_26), (16, .bool s)]) (fun s => h) (fun s => (glossaryref13_Bits_j0 s).post KK X) (fun x16_29 hq => ?_) (fun N hN31 => ?_)
              · try dsimp only at hq ⊢
                unfold glossaryref13_Bits_j0 at hq
                rw [wp_cond]
                simp only [go_sem, ↓evs_eq, Nat.reduceAdd, ↓reduceIte, Nat.reduceEqDiff, Nat.reduceBEq, Nat.reduceBNe, Nat.reduceLT, Int.reduceToNat, Int.reduceEq, Int.reduceLT, Int.reduceLE, reduceCtorEq, Nat.reduceMul, Nat.reduceLeDiff, S_api_Node.enc_eq]
                by_cases hc30 : x16_29 = true
                · replace hq := (R.post_if hq).1 hc30
                  refine condK_t (congrArg V.bool (hc30)) ?_
                  rw [wp_seq]
                  refine wp_region_i (by rfl) ?_
                  simp only [go_sem, ↓evs_eq, Nat.reduceAdd, ↓reduceIte, Nat.reduceEqDiff, Nat.reduceBEq, Nat.reduceBNe, Nat.reduceLT, Int.reduceToNat, Int.reduceEq, Int.reduceLT, Int.reduceLE, reduceCtorEq, Nat.reduceMul, Nat.reduceLeDiff, S_api_Node.enc_eq]
                  rw [wp_ret]
                  simp only [retQ, results, resultAll, resultOne, Nat.zero_add, scopeQ, go_sem, ↓evs_eq, Nat.reduceAdd, ↓reduceIte, Nat.reduceEqDiff, Nat.reduceBEq, Nat.reduceBNe, Nat.reduceLT, Int.reduceToNat, Int.reduceEq, Int.reduceLT, Int.reduceLE, reduceCtorEq, Nat.reduceMul, Nat.reduceLeDiff, S_api_Node.enc_eq]
                  refine ⟨_, (.refl _), ?_⟩
                  exact hK _ hq
                · replace hq := (R.post_if hq).2 hc30
                  replace hc30 := eq_false_of_ne_true hc30
                  refine condK_f (congrArg V.bool (hc30)) ?_
                  try simp only [wp_skip, RC]
                  refine Wk.same ?_
                  try simp only [RC]
                  refine Wk.same ?_
                  try simp only [RC]
                  refine Wk.same ?_
                  try simp only [RC]
                  refine Wk.same ?_
                  try simp only [RC]
                  refine Wk.same ?_
                  try simp only [RC]
                  rw [wp_seq]
                  refine wp_region_i (by rfl) ?_
                  simp only [go_sem, ↓evs_eq, Nat.reduceAdd, ↓reduceIte, Nat.reduceEqDiff, Nat.reduceBEq, Nat.reduceBNe, Nat.reduceLT, Int.reduceToNat, Int.reduceEq, Int.reduceLT, Int.reduceLE, reduceCtorEq, Nat.reduceMul, Nat.reduceLeDiff, S_api_Node.enc_eq]
                  rw [wp_ret]
                  simp only [retQ, results, resultAll, resultOne, Nat.zero_add, scopeQ, go_sem, ↓evs_eq, Nat.reduceAdd, ↓reduceIte, Nat.reduceEqDiff, Nat.reduceBEq, Nat.reduceBNe, Nat.reduceLT, Int.reduceToNat, Int.reduceEq, Int.reduceLT, Int.reduceLE, reduceCtorEq, Nat.reduceMul, Nat.reduceLeDiff, S_api_Node.enc_eq]
                  refine ⟨_, (.refl _), ?_⟩
                  exact hK _ hq
              · rw [wp_seq]
                refine wp_region_i (by rfl) ?_
                simp only [go_sem, ↓evs_eq, Nat.reduceAdd, ↓reduceIte, Nat.reduceEqDiff, Nat.reduceBEq, Nat.reduceBNe, Nat.reduceLT, Int.reduceToNat, Int.reduceEq, Int.reduceLT, Int.reduceLE, reduceCtorEq, Nat.reduceMul, Nat.reduceLeDiff, S_api_Node.enc_eq]
                rw [wp_cond]
                simp only [go_sem, ↓evs_eq, Nat.reduceAdd, ↓reduceIte, Nat.reduceEqDiff, Nat.reduceBEq, Nat.reduceBNe, Nat.reduceLT, Int.reduceToNat, Int.reduceEq, Int.reduceLT, Int.reduceLE, reduceCtorEq, Nat.reduceMul, Nat.reduceLeDiff, S_api_Node.enc_eq]
                by_cases hc32 : x0 = 4
                · replace hq := (R.post_if hq).1 hc32
                  refine condK_t (congrArg V.bool (decide_eq_true hc32)) ?_
                  try simp only [wp_skip, RC]
                  refine Wk.same ?_
                  try simp only [RC]
                  exact hN31 (decide (x0 = 4)) hq
                · replace hq := (R.post_if hq).2 hc32
                  refine condK_f (congrArg V.bool (decide_eq_false hc32)) ?_
                  refine wp_region_i (by rfl) ?_
                  simp only [go_sem, ↓evs_eq, Nat.reduceAdd, ↓reduceIte, Nat.reduceEqDiff, Nat.reduceBEq, Nat.reduceBNe, Nat.reduceLT, Int.reduceToNat, Int.reduceEq, Int.reduceLT, Int.reduceLE, reduceCtorEq, Nat.reduceMul, Nat.reduceLeDiff, S_api_Node.enc_eq]
                  refine Wk.same ?_
                  try simp only [RC]
                  exact hN31 (decide (x0 = 6)) hq
          · rw [wp_seq]
            refine wp_region_i (by rfl) ?_
            simp only [go_sem, ↓evs_eq, Nat.reduceAdd, ↓reduceIte, Nat.reduceEqDiff, Nat.reduceBEq, Nat.reduceBNe, Nat.reduceLT, Int.reduceToNat, Int.reduceEq, Int.reduceLT, Int.reduceLE, reduceCtorEq, Nat.reduceMul, Nat.reduceLeDiff, S_api_Node.enc_eq]
            rw [wp_cond]
            simp only [go_sem, ↓evs_eq, Nat.reduceAdd, ↓reduceIte, Nat.reduceEqDiff, Nat.reduceBEq, Nat.reduceBNe, Nat.reduceLT, Int.reduceToNat, Int.reduceEq, Int.reduceLT, Int.reduceLE, reduceCtorEq, Nat.reduceMul, Nat.reduceLeDiff, S_api_Node.enc_eq]
            by_cases hc34 : x0 = 13
            · replace hq := (R.post_if hq).1 hc34
              refine condK_t (congrArg V.bool (decide_eq_true hc34)) ?_
              try simp only [wp_skip, RC]
              refine Wk.same ?_
              try simp only [RC]
              exact hN33 (decide (x0 = 13)) hq
            · replace hq := (R.post_if hq).2 hc34
              refine condK_f (congrArg V.bool (decide_eq_false hc34)) ?_
              refine wp_region_i (by rfl) ?_
              simp only [go_sem, ↓evs_eq, Nat.reduceAdd, ↓reduceIte, Nat.reduceEqDiff, Nat.reduceBEq, Nat.reduceBNe, Nat.reduceLT, Int.reduceToNat, Int.reduceEq, Int.reduceLT, Int.reduceLE, reduceCtorEq, Nat.reduceMul, Nat.reduceLeDiff, S_api_Node.enc_eq]
              refine Wk.same ?_
              try simp only [RC]
              exact hN33 (decide (x0 = 7)) hq
      · rw [wp_seq]
        refine wp_region_i (by rfl) ?_
        simp only [go_sem, ↓evs_eq, Nat.reduceAdd, ↓reduceIte, Nat.reduceEqDiff, Nat.reduceBEq, Nat.reduceBNe, Nat.reduceLT, Int.reduceToNat, Int.reduceEq, Int.reduceLT, Int.reduceLE, reduceCtorEq, Nat.reduceMul, Nat.reduceLeDiff, S_api_Node.enc_eq]
        rw [wp_cond]
        simp only [go_sem, ↓evs_eq, Nat.reduceAdd, ↓reduceIte, Nat.reduceEqDiff, Nat.reduceBEq, Nat.reduceBNe, Nat.reduceLT, Int.reduceToNat, Int.reduceEq, Int.reduceLT, Int.reduceLE, reduceCtorEq, Nat.reduceMul, Nat.reduceLeDiff, S_api_Node.enc_eq]
        by_cases hc36 : x0 = 3
        · replace hq := (R.post_if hq).1 hc36
          refine condK_t (congrArg V.bool (decide_eq_true hc36)) ?_
          try simp only [wp_skip, RC]
          refine Wk.le (EnvLe.cons (.refl _) (EnvLe.cons (.refl _) (EnvLe.cons (.refl _) (EnvLe.cons (.refl _) (EnvLe.cons (.top _) (EnvLe.cons (.refl _) (EnvLe.cons (.refl _) (EnvLe.cons (.refl _) EnvLe.nil)))))))) ?_
          try simp only [RC]
          exact hN35 (_, (decide (x0 = 3))) hq
        · replace hq := (R.post_if hq).2 hc36
          refine condK_f (congrArg V.bool (decide_eq_false hc36)) ?_
          rw [wp_seq]
          refine wp_region_i (by rfl) ?_
          simp only [go_sem, ↓evs_eq, Nat.reduceAdd, ↓reduceIte, Nat.reduceEqDiff, Nat.reduceBEq, Nat.reduceBNe, Nat.reduceLT, Int.reduceToNat, Int.reduceEq, Int.reduceLT, Int.reduceLE, reduceCtorEq, Nat.reduceMul, Nat.reduceLeDiff, S_api_Node.enc_eq]
          rw [wp_cond]
          simp only [go_sem, ↓evs_eq, Nat.reduceAdd, ↓reduceIte, Nat.reduceEqDiff, Nat.reduceBEq, Nat.reduceBNe, Nat.reduceLT, Int.reduceToNat, Int.reduceEq, Int.reduceLT, Int.reduceLE, reduceCtorEq, Nat.reduceMul, Nat.reduceLeDiff, S_api_Node.enc_eq]
          by_cases hc37 : x0 = 18
          · replace hq := (R.post_if hq).1 hc37
            refine condK_t (congrArg V.bool (decide_eq_true hc37)) ?_
            try simp only [wp_skip, RC]
            refine Wk.le (EnvLe.cons (.refl _) (EnvLe.cons (.refl _) (EnvLe.cons (.refl _) (EnvLe.cons (.refl _) (EnvLe.cons (.top _) (EnvLe.cons (.refl _) (EnvLe.cons (.refl _) (EnvLe.cons (.refl _) EnvLe.nil)))))))) ?_
            try simp only [RC]
            refine Wk.same ?_
            try simp only [RC]
            exact hN35 (_, (decide (x0 = 18))) hq
          · replace hq := (R.post_if hq).2 hc37
            refine condK_f (congrArg V.bool (decide_eq_false hc37)) ?_
            refine wp_region_i (by rfl) ?_
            simp only [go_sem, ↓evs_eq, Nat.reduceAdd, ↓reduceIte, Nat.reduceEqDiff, Nat.reduceBEq, Nat.reduceBNe, Nat.reduceLT, Int.reduceToNat, Int.reduceEq, Int.reduceLT, Int.reduceLE, reduceCtorEq, Nat.reduceMul, Nat.reduceLeDiff, S_api_Node.enc_eq]
            refine Wk.le (EnvLe.cons (.refl _) (EnvLe.cons (.refl _) (EnvLe.cons (.refl _) (EnvLe.cons (.refl _) (EnvLe.cons (.top _) (EnvLe.cons (.refl _) (EnvLe.cons (.refl _) (EnvLe.cons (.refl _) EnvLe.nil)))))))) ?_
            try simp only [RC]
            refine Wk.same ?_
            try simp only [RC]
            exact hN35 (_, (decide (x0 = 16))) hq
  · rw [wp_seq]
    refine wp_region_i (by rfl) ?_
    simp only [go_sem, ↓evs_eq, Nat.reduceAdd, ↓reduceIte, Nat.reduceEqDiff, Nat.reduceBEq, Nat.reduceBNe, Nat.reduceLT, Int.reduceToNat, Int.reduceEq, Int.reduceLT, Int.reduceLE, reduceCtorEq, Nat.reduceMul, Nat.reduceLeDiff, S_api_Node.enc_eq]
    rw [wp_cond]
    simp only [go_sem, ↓evs_eq, Nat.reduceAdd, ↓reduceIte, Nat.reduceEqDiff, Nat.reduceBEq, Nat.reduceBNe, Nat.reduceLT, Int.reduceToNat, Int.reduceEq, Int.reduceLT, Int.reduceLE, reduceCtorEq, Nat.reduceMul, Nat.reduceLeDiff, S_api_Node.enc_eq]
    by_cases hc39 : x0 = 5
    · replace hq := (R.post_if hq).1 hc39
      refine condK_t (congrArg V.bool (decide_eq_true hc39)) ?_
      try simp only [wp_skip, RC]
      refine Wk.same ?_
      try simp only [RC]
      exact hN38 (decide (x0 = 5)) hq
    · replace hq := (R.post_if hq).2 hc39
      refine condK_f (congrArg V.bool (decide_eq_false hc39)) ?_
      rw [wp_seq]
      refine wp_region_i (by rfl) ?_
      simp only [go_sem, ↓evs_eq, Nat.reduceAdd, ↓reduceIte, Nat.reduceEqDiff, Nat.reduceBEq, Nat.reduceBNe, Nat.reduceLT, Int.reduceToNat, Int.reduceEq, Int.reduceLT, Int.reduceLE, reduceCtorEq, Nat.reduceMul, Nat.reduceLeDiff, S_api_Node.enc_eq]
      rw [wp_cond]
      simp only [go_sem, ↓evs_eq, Nat.reduceAdd, ↓reduceIte, Nat.reduceEqDiff, Nat.reduceBEq, Nat.reduceBNe, Nat.reduceLT, Int.reduceToNat, Int.reduceEq, Int.reduceLT, Int.reduceLE, reduceCtorEq, Nat.reduceMul, Nat.reduceLeDiff, S_api_Node.enc_eq]
      by_cases hc40 : x0 = 17
      · replace hq := (R.post_if hq).1 hc40
        refine condK_t (congrArg V.bool (decide_eq_true hc40)) ?_
        try simp only [wp_skip, RC]
        refine Wk.same ?_
        try simp only [RC]
        refine Wk.same ?_
        try simp only [RC]
        exact hN38 (decide (x0 = 17)) hq
      · replace hq := (R.post_if hq).2 hc40
        refine condK_f (congrArg V.bool (decide_eq_false hc40)) ?_
        refine wp_region_i (by rfl) ?_
        simp only [go_sem, ↓evs_eq, Nat.reduceAdd, ↓reduceIte, Nat.reduceEqDiff, Nat.reduceBEq, Nat.reduceBNe, Nat.reduceLT, Int.reduceToNat, Int.reduceEq, Int.reduceLT, Int.reduceLE, reduceCtorEq, Nat.reduceMul, Nat.reduceLeDiff, S_api_Node.enc_eq]
        refine Wk.same ?_
        try simp only [RC]
        refine Wk.same ?_
        try simp only [RC]
        exact hN38 (decide (x0 = 15)) hq

def glossaryref01_digit (x0 : UInt8) : R (Int) :=
  (if (48 : Int) ≤ (x0.toNat : Int) then (R.ok (decide ((x0.toNat : Int) ≤ 57))) else (R.ok false)).bind fun x3m17 => if x3m17 = true then (R.ok (IntKind.wrap .i64 ((u8 (IntKind.wrap .u8 ((x0.toNat : Int) - 48))).toNat : Int))) else ((if (97 : Int) ≤ (x0.toNat : Int) then (R.ok (decide ((x0.toNat : Int) ≤ 102))) else (R.ok false)).bind fun x13m26 => if x13m26 = true then (R.ok (IntKind.wrap .i64 ((IntKind.wrap .i64 ((u8 (IntKind.wrap .u8 ((x0.toNat : Int) - 97))).toNat : Int)) + 10))) else ((if (65 : Int) ≤ (x0.toNat : Int) then (R.ok (decide ((x0.toNat : Int) ≤ 70))) else (R.ok false)).bind fun x24m35 => if x24m35 = true then (R.ok (IntKind.wrap .i64 ((IntKind.wrap .i64 ((u8 (IntKind.wrap .u8 ((x0.toNat : Int) - 65))).toNat : Int)) + 10))) else (R.ok 99)))
theorem glossaryref01_digit_call {h : H} {x0 : UInt8} {Q : Out → H → Prop} {KK : (Int) → Prop} {X : V → Prop} (hq : (glossaryref01_digit x0).post KK X) (hK : ∀ r, KK r → Q (.ret (.int .i64 r)) h) (hX : ∀ v, X v → V.Cl 0 v ∧ Q (.panic v) h) : CA qprim 59 [.int .u8 (x0.toNat : Int)] h Q := by
  refine acalln hp Tryz.func59 rfl (by kernel_rfl) (n := 35) rfl (rs := [.tmp 2]) rfl [0, 2, 3, 13, 24] [] false (by simp) ?_
  unfold glossaryref01_digit at hq
  simp only [initEnv, List.map_cons, List.map_nil, List.getD_cons_zero, List.getD_cons_succ, List.getD_nil, V.demote]
  rw [wp_seq]
  refine wp_region_i (by rfl) ?_
  simp only [go_sem, ↓evs_eq, Nat.reduceAdd, ↓reduceIte, Nat.reduceEqDiff, Nat.reduceBEq, Nat.reduceBNe, Nat.reduceLT, Int.reduceToNat, Int.reduceEq, Int.reduceLT, Int.reduceLE, reduceCtorEq, Nat.reduceMul, Nat.reduceLeDiff, S_api_Node.enc_eq]
  rw [wp_seq]
  rw [wp_block]
  obtain ⟨K18, hK19, hq⟩ := R.post_cut hq
  refine seq_gen (acall_mono hp) (σ := Bool) (fun s => [(0, .int .u8 (x0.toNat : Int)), (2, .int .i64 0), (3, .bool s), (13, .top), (24, .top)]) (fun s => h) (fun s => K18 s) (fun x3m17 hq => ?_) (fun N hN20 => ?_)
  · replace hq := hK19 _ hq
    try dsimp only at hq ⊢
    rw [wp_cond]
    simp only [go_sem, ↓evs_eq, Nat.reduceAdd, ↓reduceIte, Nat.reduceEqDiff, Nat.reduceBEq, Nat.reduceBNe, Nat.reduceLT, Int.reduceToNat, Int.reduceEq, Int.reduceLT, Int.reduceLE, reduceCtorEq, Nat.reduceMul, Nat.reduceLeDiff, S_api_Node.enc_eq]
    by_cases hc22 : x3m17 = true
    · replace hq := (R.post_if hq).1 hc22
      refine condK_t (congrArg V.bool (hc22)) ?_
      rw [wp_seq]
      refine wp_region_i (by rfl) ?_
      have e24 := u8_fix (n := (IntKind.wrap .u8 ((x0.toNat : Int) - 48))) (wrap_u8 _)
      simp only [e24, go_sem, ↓evs_eq, Nat.reduceAdd, ↓reduceIte, Nat.reduceEqDiff, Nat.reduceBEq, Nat.reduceBNe, Nat.reduceLT, Int.reduceToNat, Int.reduceEq, Int.reduceLT, Int.reduceLE, reduceCtorEq, Nat.reduceMul, Nat.reduceLeDiff, S_api_Node.enc_eq]
      rw [wp_ret]
      simp only [retQ, results, resultAll, resultOne, Nat.zero_add, scopeQ, go_sem, ↓evs_eq, Nat.reduceAdd, ↓reduceIte, Nat.reduceEqDiff, Nat.reduceBEq, Nat.reduceBNe, Nat.reduceLT, Int.reduceToNat, Int.reduceEq, Int.reduceLT, Int.reduceLE, reduceCtorEq, Nat.reduceMul, Nat.reduceLeDiff, S_api_Node.enc_eq]
      refine ⟨_, (.refl _), ?_⟩
      exact hK _ hq
    · replace hq := (R.post_if hq).2 hc22
      replace hc22 := eq_false_of_ne_true hc22
      refine condK_f (congrArg V.bool (hc22)) ?_
      obtain ⟨K27, hK28, hq⟩ := R.post_cut hq
      refine seq_gen (acall_mono hp) (σ := Bool) (fun s => [(0, .int .u8 (x0.toNat : Int)), (2, .int .i64 0), (3, .bool x3m17), (13, .bool s), (24, .top)]) (fun s => h) (fun s => K27 s) (fun x13m26 hq => ?_) (fun N hN29 => ?_)
      · replace hq := hK28 _ hq
        try dsimp only at hq ⊢
        rw [wp_cond]
        simp only [go_sem, ↓evs_eq, Nat.reduceAdd, ↓reduceIte, Nat.reduceEqDiff, Nat.reduceBEq, Nat.reduceBNe, Nat.reduceLT, Int.reduceToNat, Int.reduceEq, Int.reduceLT, Int.reduceLE, reduceCtorEq, Nat.reduceMul, Nat.reduceLeDiff, S_api_Node.enc_eq]
        by_cases hc31 : x13m26 = true
        · replace hq := (R.post_if hq).1 hc31
          refine condK_t (congrArg V.bool (hc31)) ?_
          rw [wp_seq]
          refine wp_region_i (by rfl) ?_
          have e33 := u8_fix (n := (IntKind.wrap .u8 ((x0.toNat : Int) - 97))) (wrap_u8 _)
          simp only [e33, go_sem, ↓evs_eq, Nat.reduceAdd, ↓reduceIte, Nat.reduceEqDiff, Nat.reduceBEq, Nat.reduceBNe, Nat.reduceLT, Int.reduceToNat, Int.reduceEq, Int.reduceLT, Int.reduceLE, reduceCtorEq, Nat.reduceMul, Nat.reduceLeDiff, S_api_Node.enc_eq]
          rw [wp_ret]
          simp only [retQ, results, resultAll, resultOne, Nat.zero_add, scopeQ, go_sem, ↓evs_eq, Nat.reduceAdd, ↓reduceIte, Nat.reduceEqDiff, Nat.reduceBEq, Nat.reduceBNe, Nat.reduceLT, Int.reduceToNat, Int.reduceEq, Int.reduceLT, Int.reduceLE, reduceCtorEq, Nat.reduceMul, Nat.reduceLeDiff, S_api_Node.enc_eq]
          refine ⟨_, (.refl _), ?_⟩
          exact hK _ hq
        · replace hq := (R.post_if hq).2 hc31
          replace hc31 := eq_false_of_ne_true hc31
          refine condK_f (congrArg V.bool (hc31)) ?_
          obtain ⟨K36, hK37, hq⟩ := R.post_cut hq
          refine seq_gen (acall_mono hp) (σ := Bool) (fun s => [(0, .int .u8 (x0.toNat : Int)), (2, .int .i64 0), (3, .bool x3m17), (13, .bool x13m26), (24, .bool s)]) (fun s => h) (fun s => K36 s) (fun x24m35 hq => ?_) (fun N hN38 => ?_)
          · replace hq := hK37 _ hq
            try dsimp only at hq ⊢
            rw [wp_cond]
            simp only [go_sem, ↓evs_eq, Nat.reduceAdd, ↓reduceIte, Nat.reduceEqDiff, Nat.reduceBEq, Nat.reduceBNe, Nat.reduceLT, Int.reduceToNat, Int.reduceEq, Int.reduceLT, Int.reduceLE, reduceCtorEq, Nat.reduceMul, Nat.reduceLeDiff, S_api_Node.enc_eq]
            by_cases hc40 : x24m35 = true
            · replace hq := (R.post_if hq).1 hc40
              refine condK_t (congrArg V.bool (hc40)) ?_
              rw [wp_seq]
              refine wp_region_i (by rfl) ?_
              have e42 := u8_fix (n := (IntKind.wrap .u8 ((x0.toNat : Int) - 65))) (wrap_u8 _)
              simp only [e42, go_sem, ↓evs_eq, Nat.reduceAdd, ↓reduceIte, Nat.reduceEqDiff, Nat.reduceBEq, Nat.reduceBNe, Nat.reduceLT, Int.reduceToNat, Int.reduceEq, Int.reduceLT, Int.reduceLE, reduceCtorEq, Nat.reduceMul, Nat.reduceLeDiff, S_api_Node.enc_eq]
              rw [wp_ret]
              simp only [retQ, results, resultAll, resultOne, Nat.zero_add, scopeQ, go_sem, ↓evs_eq, Nat.reduceAdd, ↓reduceIte, Nat.reduceEqDiff, Nat.reduceBEq, Nat.reduceBNe, Nat.reduceLT, Int.reduceToNat, Int.reduceEq, Int.reduceLT, Int.reduceLE, reduceCtorEq, Nat.reduceMul, Nat.reduceLeDiff, S_api_Node.enc_eq]
              refine ⟨_, (.refl _), ?_⟩
              exact hK _ hq
            · replace hq := (R.post_if hq).2 hc40
              replace hc40 := eq_false_of_ne_true hc40
              refine condK_f (congrArg V.bool (hc40)) ?_
              try simp only [wp_skip, RC]
              refine Wk.same ?_
              try simp only [RC]
              refine Wk.same ?_
              try simp only [RC]
              refine Wk.same ?_
              try simp only [RC]
              refine Wk.same ?_
              try simp only [RC]
              rw [wp_seq]
              refine wp_region_i (by rfl) ?_
              simp only [go_sem, ↓evs_eq, Nat.reduceAdd, ↓reduceIte, Nat.reduceEqDiff, Nat.reduceBEq, Nat.reduceBNe, Nat.reduceLT, Int.reduceToNat, Int.reduceEq, Int.reduceLT, Int.reduceLE, reduceCtorEq, Nat.reduceMul, Nat.reduceLeDiff, S_api_Node.enc_eq]
              rw [wp_ret]
              simp only [retQ, results, resultAll, resultOne, Nat.zero_add, scopeQ, go_sem, ↓evs_eq, Nat.reduceAdd, ↓reduceIte, Nat.reduceEqDiff, Nat.reduceBEq, Nat.reduceBNe, Nat.reduceLT, Int.reduceToNat, Int.reduceEq, Int.reduceLT, Int.reduceLE, reduceCtorEq, Nat.reduceMul, Nat.reduceLeDiff, S_api_Node.enc_eq]
              refine ⟨_, (.refl _), ?_⟩
              exact hK _ hq
          · refine wp_region_i (by rfl) ?_
            simp only [go_sem, ↓evs_eq, Nat.reduceAdd, ↓reduceIte, Nat.reduceEqDiff, Nat.reduceBEq, Nat.reduceBNe, Nat.reduceLT, Int.reduceToNat, Int.reduceEq, Int.reduceLT, Int.reduceLE, reduceCtorEq, Nat.reduceMul, Nat.reduceLeDiff, S_api_Node.enc_eq]
            by_cases hc39 : (65 : Int) ≤ (x0.toNat : Int)
            · replace hq := (R.post_if hq).1 hc39
              simp only [decide_eq_true hc39, go_sem, ↓evs_eq, Nat.reduceAdd, ↓reduceIte, Nat.reduceEqDiff, Nat.reduceBEq, Nat.reduceBNe, Nat.reduceLT, Int.reduceToNat, Int.reduceEq, Int.reduceLT, Int.reduceLE, reduceCtorEq, Nat.reduceMul, Nat.reduceLeDiff, S_api_Node.enc_eq]
              exact hN38 (decide ((x0.toNat : Int) ≤ 70)) hq
            · replace hq := (R.post_if hq).2 hc39
              simp only [decide_eq_false hc39, go_sem, ↓evs_eq, Nat.reduceAdd, ↓reduceIte, Nat.reduceEqDiff, Nat.reduceBEq, Nat.reduceBNe, Nat.reduceLT, Int.reduceToNat, Int.reduceEq, Int.reduceLT, Int.reduceLE, reduceCtorEq, Nat.reduceMul, Nat.reduceLeDiff, S_api_Node.enc_eq]
              exact hN38 false hq
      · refine wp_region_i (by rfl) ?_
        simp only [go_sem, ↓evs_eq, Nat.reduceAdd, ↓reduceIte, Nat.reduceEqDiff, Nat.reduceBEq, Nat.reduceBNe, Nat.reduceLT, Int.reduceToNat, Int.reduceEq, Int.reduceLT, Int.reduceLE, reduceCtorEq, Nat.reduceMul, Nat.reduceLeDiff, S_api_Node.enc_eq]
        by_cases hc30 : (97 : Int) ≤ (x0.toNat : Int)
        · replace hq := (R.post_if hq).1 hc30
          simp only [decide_eq_true hc30, go_sem, ↓evs_eq, Nat.reduceAdd, ↓reduceIte, Nat.reduceEqDiff, Nat.reduceBEq, Nat.reduceBNe, Nat.reduceLT, Int.reduceToNat, Int.reduceEq, Int.reduceLT, Int.reduceLE, reduceCtorEq, Nat.reduceMul, Nat.reduceLeDiff, S_api_Node.enc_eq]
          exact hN29 (decide ((x0.toNat : Int) ≤ 102)) hq
        · replace hq := (R.post_if hq).2 hc30
          simp only [decide_eq_false hc30, go_sem, ↓evs_eq, Nat.reduceAdd, ↓reduceIte, Nat.reduceEqDiff, Nat.reduceBEq, Nat.reduceBNe, Nat.reduceLT, Int.reduceToNat, Int.reduceEq, Int.reduceLT, Int.reduceLE, reduceCtorEq, Nat.reduceMul, Nat.reduceLeDiff, S_api_Node.enc_eq]
          exact hN29 false hq
  · refine wp_region_i (by rfl) ?_
    simp only [go_sem, ↓evs_eq, Nat.reduceAdd, ↓reduceIte, Nat.reduceEqDiff, Nat.reduceBEq, Nat.reduceBNe, Nat.reduceLT, Int.reduceToNat, Int.reduceEq, Int.reduceLT, Int.reduceLE, reduceCtorEq, Nat.reduceMul, Nat.reduceLeDiff, S_api_Node.enc_eq]
    by_cases hc21 : (48 : Int) ≤ (x0.toNat : Int)
    · replace hq := (R.post_if hq).1 hc21
      simp only [decide_eq_true hc21, go_sem, ↓evs_eq, Nat.reduceAdd, ↓reduceIte, Nat.reduceEqDiff, Nat.reduceBEq, Nat.reduceBNe, Nat.reduceLT, Int.reduceToNat, Int.reduceEq, Int.reduceLT, Int.reduceLE, reduceCtorEq, Nat.reduceMul, Nat.reduceLeDiff, S_api_Node.enc_eq]
      exact hN20 (decide ((x0.toNat : Int) ≤ 57)) hq
    · replace hq := (R.post_if hq).2 hc21
      simp only [decide_eq_false hc21, go_sem, ↓evs_eq, Nat.reduceAdd, ↓reduceIte, Nat.reduceEqDiff, Nat.reduceBEq, Nat.reduceBNe, Nat.reduceLT, Int.reduceToNat, Int.reduceEq, Int.reduceLT, Int.reduceLE, reduceCtorEq, Nat.reduceMul, Nat.reduceLeDiff, S_api_Node.enc_eq]
      exact hN20 false hq

def glossaryref01_Number_j0 (x5_17 : List UInt8) (x6_51 : Int) : R (Int × Bool) :=
  R.ok (x6_51, (!(decide (x5_17 = []))))
def glossaryref01_Number_l1 (x4_17 : Int) (x5_17 : List UInt8) : Nat → Int → Int → R ((Int) ⊕ (Int × Bool))
  | 0, _, _ => R.stuck
  | k + 1, x6_53, x7_53 => if x7_53 < (List.length x5_17 : Int) then (if 0 ≤ x7_53 ∧ x7_53 < (List.length x5_17 : Int) then ((glossaryref01_digit (List.getD x5_17 (Int.toNat x7_53) 0)).bind fun r76 => (if x4_17 ≤ (IntKind.wrap .u64 r76) then (R.ok true) else (if ¬ x4_17 = 0 then (R.ok (decide ((IntKind.wrap .u64 (Int.tdiv (IntKind.wrap .u64 (18446744073709551615 - (IntKind.wrap .u64 r76))) x4_17)) < x6_53))) else R.stuck)).bind fun x63m79 => if x63m79 = true then (R.ok (.inr (0, false))) else (glossaryref01_Number_l1 x4_17 x5_17 k (IntKind.wrap .u64 ((IntKind.wrap .u64 (x6_53 * x4_17)) + (IntKind.wrap .u64 r76))) (IntKind.wrap .i64 (x7_53 + 1)))) else R.stuck) else (R.ok (.inl x6_53))
def glossaryref01_Number_j2 (x4_17 : Int) (x5_17 : List UInt8) : R (Int × Bool) :=
  (glossaryref01_Number_l1 x4_17 x5_17 Many 0 0).bind fun | (.inl x6p89) => glossaryref01_Number_j0 x5_17 x6p89 | (.inr rp90) => R.ok rp90
def glossaryref01_Number (x0 : List UInt8) : R (Int × Bool) :=
  (if (2 : Int) < (List.length x0 : Int) then (if 0 ≤ 0 ∧ 0 < (List.length x0 : Int) then (if ((List.getD x0 0 0).toNat : Int) = 48 then (if 0 ≤ 1 ∧ 1 < (List.length x0 : Int) then (if ((List.getD x0 1 0).toNat : Int) = 120 then (R.ok true) else (if 0 ≤ 1 ∧ 1 < (List.length x0 : Int) then (R.ok (decide (((List.getD x0 1 0).toNat : Int) = 88))) else R.stuck)) else R.stuck) else (R.ok false)) else R.stuck) else (R.ok false)).bind fun x10m98 => if x10m98 = true then (if 0 ≤ 2 ∧ 2 ≤ (List.length x0 : Int) then (glossaryref01_Number_j2 16 (List.drop 2 x0)) else R.stuck) else ((if (1 : Int) < (List.length x0 : Int) then (if 0 ≤ 0 ∧ 0 < (List.length x0 : Int) then (R.ok (decide (((List.getD x0 0 0).toNat : Int) = 48))) else R.stuck) else (R.ok false)).bind fun x31m113 => if x31m113 = true then (if 0 ≤ 1 ∧ 1 ≤ (List.length x0 : Int) then (glossaryref01_Number_j2 8 (List.drop 1 x0)) else R.stuck) else (glossaryref01_Number_j2 10 x0))
theorem glossaryref01_Number_call {h : H} {x0 : List UInt8} {Q : Out → H → Prop} {KK : (Int × Bool) → Prop} {X : V → Prop} (hq : (glossaryref01_Number x0).post KK X) (hK : ∀ r, KK r → Q (.ret (.tup [.int .u64 r.1, .bool r.2])) h) (hX : ∀ v, X v → V.Cl 0 v ∧ Q (.panic v) h) : CA qprim 32 [.str x0] h Q := by
  refine acalln hp Tryz.func32 rfl (by kernel_rfl) (n := 72) rfl (rs := [.tmp 2, .tmp 3]) rfl [0, 2, 3, 4, 5, 6, 7, 8, 10, 31, 45, 63] [] false (by simp) ?_
  unfold glossaryref01_Number at hq
  simp only [initEnv, List.map_cons, List.map_nil, List.getD_cons_zero, List.getD_cons_succ, List.getD_nil, V.demote]
  rw [wp_seq]
  refine wp_region_i (by rfl) ?_
  simp only [go_sem, ↓evs_eq, Nat.reduceAdd, ↓reduceIte, Nat.reduceEqDiff, Nat.reduceBEq, Nat.reduceBNe, Nat.reduceLT, Int.reduceToNat, Int.reduceEq, Int.reduceLT, Int.reduceLE, reduceCtorEq, Nat.reduceMul, Nat.reduceLeDiff, S_api_Node.enc_eq]
  rw [wp_seq]
  refine wp_region_i (by rfl) ?_
  simp only [go_sem, ↓evs_eq, Nat.reduceAdd, ↓reduceIte, Nat.reduceEqDiff, Nat.reduceBEq, Nat.reduceBNe, Nat.reduceLT, Int.reduceToNat, Int.reduceEq, Int.reduceLT, Int.reduceLE, reduceCtorEq, Nat.reduceMul, Nat.reduceLeDiff, S_api_Node.enc_eq]
  refine seq_gen (acall_mono hp) (σ := Int × (List UInt8) × V × V) (fun s => [(0, .str x0), (2, .int .u64 0), (3, .bool false), (4, .int .u64 s.1), (5, .str s.2.1), (6, .top), (7, .top), (8, .top), (10, s.2.2.1), (31, s.2.2.2), (45, .top), (63, .top)]) (fun s => h) (fun s => (glossaryref01_Number_j2 s.1 s.2.1).post KK X) (fun s hq => ?_) (fun N hN91 => ?_)
  · obtain ⟨x4_17, x5_17, y10_17, y31_17⟩ := s
    try dsimp only at hq ⊢
    unfold glossaryref01_Number_j2 at hq
    rw [wp_seq]
    refine wp_region_i (by rfl) ?_
    simp only [go_sem, ↓evs_eq, Nat.reduceAdd, ↓reduceIte, Nat.reduceEqDiff, Nat.reduceBEq, Nat.reduceBNe, Nat.reduceLT, Int.reduceToNat, Int.reduceEq, Int.reduceLT, Int.reduceLE, reduceCtorEq, Nat.reduceMul, Nat.reduceLeDiff, S_api_Node.enc_eq]
    refine seq_gen (acall_mono hp) (σ := V × V × Int × V × V × V × V × V × V) (fun s => [(0, .str x0), (2, s.1), (3, s.2.1), (4, .int .u64 x4_17), (5, .str x5_17), (6, .int .u64 s.2.2.1), (7, s.2.2.2.1), (8, s.2.2.2.2.1), (10, s.2.2.2.2.2.1), (31, s.2.2.2.2.2.2.1), (45, s.2.2.2.2.2.2.2.1), (63, s.2.2.2.2.2.2.2.2)]) (fun s => h) (fun s => (glossaryref01_Number_j0 x5_17 s.2.2.1).post KK X) (fun s hq => ?_) (fun N hN52 => ?_)
    · obtain ⟨y2_51, y3_51, x6_51, y7_51, y8_51, y10_51, y31_51, y45_51, y63_51⟩ := s
      try dsimp only at hq ⊢
      unfold glossaryref01_Number_j0 at hq
      rw [wp_seq]
      refine wp_region_i (by rfl) ?_
      simp only [go_sem, ↓evs_eq, Nat.reduceAdd, ↓reduceIte, Nat.reduceEqDiff, Nat.reduceBEq, Nat.reduceBNe, Nat.reduceLT, Int.reduceToNat, Int.reduceEq, Int.reduceLT, Int.reduceLE, reduceCtorEq, Nat.reduceMul, Nat.reduceLeDiff, S_api_Node.enc_eq]
      rw [wp_ret]
      simp only [retQ, results, resultAll, resultOne, Nat.zero_add, scopeQ, go_sem, ↓evs_eq, Nat.reduceAdd, ↓reduceIte, Nat.reduceEqDiff, Nat.reduceBEq, Nat.reduceBNe, Nat.reduceLT, Int.reduceToNat, Int.reduceEq, Int.reduceLT, Int.reduceLE, reduceCtorEq, Nat.reduceMul, Nat.reduceLeDiff, S_api_Node.enc_eq]
      refine ⟨_, (.refl _), ?_⟩
      exact hK _ hq
    · rw [wp_seq]
      refine wp_region_i (by rfl) ?_
      simp only [go_sem, ↓evs_eq, Nat.reduceAdd, ↓reduceIte, Nat.reduceEqDiff, Nat.reduceBEq, Nat.reduceBNe, Nat.reduceLT, Int.reduceToNat, Int.reduceEq, Int.reduceLT, Int.reduceLE, reduceCtorEq, Nat.reduceMul, Nat.reduceLeDiff, S_api_Node.enc_eq]
      rw [wp_block]
      refine loop_in ?_
      refine Wk.le (EnvLe.cons (.refl _) (EnvLe.cons (.top _) (EnvLe.cons (.top _) (EnvLe.cons (.refl _) (EnvLe.cons (.refl _) (EnvLe.cons (.refl _) (EnvLe.cons (.refl _) (EnvLe.cons (.refl _) (EnvLe.cons (.refl _) (EnvLe.cons (.refl _) (EnvLe.cons (.refl _) (EnvLe.cons (.refl _) EnvLe.nil)))))))))))) ?_
      obtain ⟨K67, hK68, hq⟩ := R.post_cut hq
      refine loop_gen (acall_mono hp) (σ := V × V × Int × Int × V × V × V) (fun s => [(0, .str x0), (2, s.1), (3, s.2.1), (4, .int .u64 x4_17), (5, .str x5_17), (6, .int .u64 s.2.2.1), (7, .int .i64 s.2.2.2.1), (8, s.2.2.2.2.1), (10, y10_17), (31, y31_17), (45, s.2.2.2.2.2.1), (63, s.2.2.2.2.2.2)]) (fun s => h) (fun k s => (glossaryref01_Number_l1 x4_17 x5_17 k s.2.2.1 s.2.2.2.1).post K67 X) (fun s hs => hs) (fun k88 s hq N hN69 => ?_) _ (_, _, 0, 0, _, _, _) hq
      obtain ⟨y2_53, y3_53, x6_53, x7_53, y8_53, y45_53, y63_53⟩ := s
      try dsimp only at hq ⊢
      rw [glossaryref01_Number_l1] at hq
      rw [wp_seq]
      rw [wp_seq]
      refine wp_region_i (by rfl) ?_
      simp only [go_sem, ↓evs_eq, Nat.reduceAdd, ↓reduceIte, Nat.reduceEqDiff, Nat.reduceBEq, Nat.reduceBNe, Nat.reduceLT, Int.reduceToNat, Int.reduceEq, Int.reduceLT, Int.reduceLE, reduceCtorEq, Nat.reduceMul, Nat.reduceLeDiff, S_api_Node.enc_eq]
      rw [wp_cond]
      simp only [go_sem, ↓evs_eq, Nat.reduceAdd, ↓reduceIte, Nat.reduceEqDiff, Nat.reduceBEq, Nat.reduceBNe, Nat.reduceLT, Int.reduceToNat, Int.reduceEq, Int.reduceLT, Int.reduceLE, reduceCtorEq, Nat.reduceMul, Nat.reduceLeDiff, S_api_Node.enc_eq]
      by_cases hc70 : x7_53 < (List.length x5_17 : Int)
      · replace hq := (R.post_if hq).1 hc70
        refine condK_t (congrArg V.bool (decide_eq_true hc70)) ?_
        try simp only [wp_skip, RC]
        refine Wk.same ?_
        try simp only [RC]
        rw [wp_seq]
        rw [wp_block]
        rw [wp_seq]
        refine wp_region_i (by rfl) ?_
        obtain ⟨g75, hq⟩ := R.guard hq
        simp only [go_sem, ↓evs_eq, Nat.reduceAdd, ↓reduceIte, Nat.reduceEqDiff, Nat.reduceBEq, Nat.reduceBNe, Nat.reduceLT, Int.reduceToNat, Int.reduceEq, Int.reduceLT, Int.reduceLE, reduceCtorEq, Nat.reduceMul, Nat.reduceLeDiff, S_api_Node.enc_eq]
        repeat (with_reducible refine And.intro (by first | omega | assumption) ?_)
        obtain ⟨K86, hK87, hq⟩ := R.post_cut hq
        refine glossaryref01_digit_call (x0 := (List.getD x5_17 (Int.toNat x7_53) 0)) hq (fun r76 hq => ?_) (fun v hv => ⟨(hX v hv).1, ?_⟩)
        · replace hq := hK87 _ hq
          simp only [go_sem, ↓evs_eq, Nat.reduceAdd, ↓reduceIte, Nat.reduceEqDiff, Nat.reduceBEq, Nat.reduceBNe, Nat.reduceLT, Int.reduceToNat, Int.reduceEq, Int.reduceLT, Int.reduceLE, reduceCtorEq, Nat.reduceMul, Nat.reduceLeDiff, S_api_Node.enc_eq]
          rw [wp_seq]
          obtain ⟨K80, hK81, hq⟩ := R.post_cut hq
          refine seq_gen (acall_mono hp) (σ := Bool) (fun s => [(0, .str x0), (2, y2_53), (3, y3_53), (4, .int .u64 x4_17), (5, .str x5_17), (6, .int .u64 x6_53), (7, .int .i64 x7_53), (8, .int .u64 (IntKind.wrap .u64 r76)), (10, y10_17), (31, y31_17), (45, .bool (decide (x7_53 < (List.length x5_17 : Int)))), (63, .bool s)]) (fun s => h) (fun s => K80 s) (fun x63m79 hq => ?_) (fun N hN82 => ?_)
          · replace hq := hK81 _ hq
            try dsimp only at hq ⊢
            rw [wp_cond]
            simp only [go_sem, ↓evs_eq, Nat.reduceAdd, ↓reduceIte, Nat.reduceEqDiff, Nat.reduceBEq, Nat.reduceBNe, Nat.reduceLT, Int.reduceToNat, Int.reduceEq, Int.reduceLT, Int.reduceLE, reduceCtorEq, Nat.reduceMul, Nat.reduceLeDiff, S_api_Node.enc_eq]
            by_cases hc85 : x63m79 = true
            · replace hq := (R.post_if hq).1 hc85
              refine condK_t (congrArg V.bool (hc85)) ?_
              rw [wp_seq]
              refine wp_region_i (by rfl) ?_
              simp only [go_sem, ↓evs_eq, Nat.reduceAdd, ↓reduceIte, Nat.reduceEqDiff, Nat.reduceBEq, Nat.reduceBNe, Nat.reduceLT, Int.reduceToNat, Int.reduceEq, Int.reduceLT, Int.reduceLE, reduceCtorEq, Nat.reduceMul, Nat.reduceLeDiff, S_api_Node.enc_eq]
              rw [wp_ret]
              simp only [retQ, results, resultAll, resultOne, Nat.zero_add, scopeQ, go_sem, ↓evs_eq, Nat.reduceAdd, ↓reduceIte, Nat.reduceEqDiff, Nat.reduceBEq, Nat.reduceBNe, Nat.reduceLT, Int.reduceToNat, Int.reduceEq, Int.reduceLT, Int.reduceLE, reduceCtorEq, Nat.reduceMul, Nat.reduceLeDiff, S_api_Node.enc_eq]
              refine ⟨_, (.refl _), ?_⟩
              replace hq := hK68 _ hq
              exact hK _ hq
            · replace hq := (R.post_if hq).2 hc85
              replace hc85 := eq_false_of_ne_true hc85
              refine condK_f (congrArg V.bool (hc85)) ?_
              try simp only [wp_skip, RC]
              refine Wk.same ?_
              try simp only [RC]
              refine wp_region_i (by rfl) ?_
              simp only [go_sem, ↓evs_eq, Nat.reduceAdd, ↓reduceIte, Nat.reduceEqDiff, Nat.reduceBEq, Nat.reduceBNe, Nat.reduceLT, Int.reduceToNat, Int.reduceEq, Int.reduceLT, Int.reduceLE, reduceCtorEq, Nat.reduceMul, Nat.reduceLeDiff, S_api_Node.enc_eq]
              refine Wk.same ?_
              try simp only [RC]
              refine wp_region_i (by rfl) ?_
              simp only [go_sem, ↓evs_eq, Nat.reduceAdd, ↓reduceIte, Nat.reduceEqDiff, Nat.reduceBEq, Nat.reduceBNe, Nat.reduceLT, Int.reduceToNat, Int.reduceEq, Int.reduceLT, Int.reduceLE, reduceCtorEq, Nat.reduceMul, Nat.reduceLeDiff, S_api_Node.enc_eq]
              refine Wk.le (EnvLe.cons (.refl _) (EnvLe.cons (.refl _) (EnvLe.cons (.refl _) (EnvLe.cons (.refl _) (EnvLe.cons (.refl _) (EnvLe.cons (.refl _) (EnvLe.cons (.refl _) (EnvLe.cons (.top _) (EnvLe.cons (.refl _) (EnvLe.cons (.refl _) (EnvLe.cons (.top _) (EnvLe.cons (.top _) EnvLe.nil)))))))))))) ?_
              exact hN69 (_, _, (IntKind.wrap .u64 ((IntKind.wrap .u64 (x6_53 * x4_17)) + (IntKind.wrap .u64 r76))), (IntKind.wrap .i64 (x7_53 + 1)), _, _, _) hq
          · refine wp_region_i (by rfl) ?_
            simp only [go_sem, ↓evs_eq, Nat.reduceAdd, ↓reduceIte, Nat.reduceEqDiff, Nat.reduceBEq, Nat.reduceBNe, Nat.reduceLT, Int.reduceToNat, Int.reduceEq, Int.reduceLT, Int.reduceLE, reduceCtorEq, Nat.reduceMul, Nat.reduceLeDiff, S_api_Node.enc_eq]
            by_cases hc83 : x4_17 ≤ (IntKind.wrap .u64 r76)
            · replace hq := (R.post_if hq).1 hc83
              simp only [decide_eq_true hc83, go_sem, ↓evs_eq, Nat.reduceAdd, ↓reduceIte, Nat.reduceEqDiff, Nat.reduceBEq, Nat.reduceBNe, Nat.reduceLT, Int.reduceToNat, Int.reduceEq, Int.reduceLT, Int.reduceLE, reduceCtorEq, Nat.reduceMul, Nat.reduceLeDiff, S_api_Node.enc_eq]
              exact hN82 true hq
            · replace hq := (R.post_if hq).2 hc83
              obtain ⟨g84, hq⟩ := R.guard hq
              simp only [decide_eq_false hc83, go_sem, ↓evs_eq, Nat.reduceAdd, ↓reduceIte, Nat.reduceEqDiff, Nat.reduceBEq, Nat.reduceBNe, Nat.reduceLT, Int.reduceToNat, Int.reduceEq, Int.reduceLT, Int.reduceLE, reduceCtorEq, Nat.reduceMul, Nat.reduceLeDiff, S_api_Node.enc_eq]
              repeat (with_reducible refine And.intro (by first | omega | assumption) ?_)
              exact hN82 (decide ((IntKind.wrap .u64 (Int.tdiv (IntKind.wrap .u64 (18446744073709551615 - (IntKind.wrap .u64 r76))) x4_17)) < x6_53)) hq
        · simp only [RC, scopeQ, retQ, ↓reduceIte, Bool.false_eq_true]
          exact (hX _ hv).2
      · replace hq := (R.post_if hq).2 hc70
        refine condK_f (congrArg V.bool (decide_eq_false hc70)) ?_
        rw [wp_exit]
        try simp only [↓reduceIte, Nat.reduceEqDiff, reduceCtorEq, if_false, if_true, eq_self, Nat.succ_ne_self, RC]
        replace hq := hK68 _ hq
        try dsimp only at hq
        refine Wk.le (EnvLe.cons (.refl _) (EnvLe.cons (.refl _) (EnvLe.cons (.refl _) (EnvLe.cons (.refl _) (EnvLe.cons (.refl _) (EnvLe.cons (.refl _) (EnvLe.cons (.top _) (EnvLe.cons (.refl _) (EnvLe.cons (.refl _) (EnvLe.cons (.refl _) (EnvLe.cons (.top _) (EnvLe.cons (.refl _) EnvLe.nil)))))))))))) ?_
        try simp only [RC]
        exact hN52 (_, _, x6_53, _, _, _, _, _, _) hq
  · rw [wp_block]
    obtain ⟨K99, hK100, hq⟩ := R.post_cut hq
    refine seq_gen (acall_mono hp) (σ := Bool) (fun s => [(0, .str x0), (2, .int .u64 0), (3, .bool false), (4, .int .u64 10), (5, .str x0), (6, .top), (7, .top), (8, .top), (10, .bool s), (31, .top), (45, .top), (63, .top)]) (fun s => h) (fun s => K99 s) (fun x10m98 hq => ?_) (fun N hN101 => ?_)
    · replace hq := hK100 _ hq
      try dsimp only at hq ⊢
      rw [wp_cond]
      simp only [go_sem, ↓evs_eq, Nat.reduceAdd, ↓reduceIte, Nat.reduceEqDiff, Nat.reduceBEq, Nat.reduceBNe, Nat.reduceLT, Int.reduceToNat, Int.reduceEq, Int.reduceLT, Int.reduceLE, reduceCtorEq, Nat.reduceMul, Nat.reduceLeDiff, S_api_Node.enc_eq]
      by_cases hc108 : x10m98 = true
      · replace hq := (R.post_if hq).1 hc108
        refine condK_t (congrArg V.bool (hc108)) ?_
        refine wp_draw (acall_mono hp) (by kernel_rfl) (by rfl) ?_
        obtain ⟨g110, hq⟩ := R.guard hq
        simp only [go_sem, ↓evs_eq, Nat.reduceAdd, ↓reduceIte, Nat.reduceEqDiff, Nat.reduceBEq, Nat.reduceBNe, Nat.reduceLT, Int.reduceToNat, Int.reduceEq, Int.reduceLT, Int.reduceLE, reduceCtorEq, Nat.reduceMul, Nat.reduceLeDiff, S_api_Node.enc_eq]
        repeat (with_reducible refine And.intro (by first | omega | assumption) ?_)
        refine Wk.le (EnvLe.cons (.refl _) (EnvLe.cons (.refl _) (EnvLe.cons (.refl _) (EnvLe.cons (.refl _) (EnvLe.cons (.refl _) (EnvLe.cons (.refl _) (EnvLe.cons (.refl _) (EnvLe.cons (.refl _) (EnvLe.cons (.top _) (EnvLe.cons (.refl _) (EnvLe.cons (.refl _) (EnvLe.cons (.refl _) EnvLe.nil)))))))))))) ?_
        try simp only [RC]
        refine Wk.same ?_
        try simp only [RC]
        exact hN91 (16, (List.drop 2 x0), _, _) hq
      · replace hq := (R.post_if hq).2 hc108
        replace hc108 := eq_false_of_ne_true hc108
        refine condK_f (congrArg V.bool (hc108)) ?_
        obtain ⟨K114, hK115, hq⟩ := R.post_cut hq
        refine seq_gen (acall_mono hp) (σ := Bool) (fun s => [(0, .str x0), (2, .int .u64 0), (3, .bool false), (4, .int .u64 10), (5, .str x0), (6, .top), (7, .top), (8, .top), (10, .bool x10m98), (31, .bool s), (45, .top), (63, .top)]) (fun s => h) (fun s => K114 s) (fun x31m113 hq => ?_) (fun N hN116 => ?_)
        · replace hq := hK115 _ hq
          try dsimp only at hq ⊢
          rw [wp_cond]
          simp only [go_sem, ↓evs_eq, Nat.reduceAdd, ↓reduceIte, Nat.reduceEqDiff, Nat.reduceBEq, Nat.reduceBNe, Nat.reduceLT, Int.reduceToNat, Int.reduceEq, Int.reduceLT, Int.reduceLE, reduceCtorEq, Nat.reduceMul, Nat.reduceLeDiff, S_api_Node.enc_eq]
          by_cases hc119 : x31m113 = true
          · replace hq := (R.post_if hq).1 hc119
            refine condK_t (congrArg V.bool (hc119)) ?_
            refine wp_draw (acall_mono hp) (by kernel_rfl) (by rfl) ?_
            obtain ⟨g121, hq⟩ := R.guard hq
            simp only [go_sem, ↓evs_eq, Nat.reduceAdd, ↓reduceIte, Nat.reduceEqDiff, Nat.reduceBEq, Nat.reduceBNe, Nat.reduceLT, Int.reduceToNat, Int.reduceEq, Int.reduceLT, Int.reduceLE, reduceCtorEq, Nat.reduceMul, Nat.reduceLeDiff, S_api_Node.enc_eq]
            repeat (with_reducible refine And.intro (by first | omega | assumption) ?_)
            refine Wk.le (EnvLe.cons (.refl _) (EnvLe.cons (.refl _) (EnvLe.cons (.refl _) (EnvLe.cons (.refl _) (EnvLe.cons (.refl _) (EnvLe.cons (.refl _) (EnvLe.cons (.refl _) (EnvLe.cons (.refl _) (EnvLe.cons (.top _) (EnvLe.cons (.top _) (EnvLe.cons (.refl _) (EnvLe.cons (.refl _) EnvLe.nil)))))))))))) ?_
            try simp only [RC]
            refine Wk.same ?_
            try simp only [RC]
            refine Wk.same ?_
            try simp only [RC]
            exact hN91 (8, (List.drop 1 x0), _, _) hq
          · replace hq := (R.post_if hq).2 hc119
            replace hc119 := eq_false_of_ne_true hc119
            refine condK_f (congrArg V.bool (hc119)) ?_
            try simp only [wp_skip, RC]
            refine Wk.le (EnvLe.cons (.refl _) (EnvLe.cons (.refl _) (EnvLe.cons (.refl _) (EnvLe.cons (.refl _) (EnvLe.cons (.refl _) (EnvLe.cons (.refl _) (EnvLe.cons (.refl _) (EnvLe.cons (.refl _) (EnvLe.cons (.top _) (EnvLe.cons (.top _) (EnvLe.cons (.refl _) (EnvLe.cons (.refl _) EnvLe.nil)))))))))))) ?_
            try simp only [RC]
            refine Wk.same ?_
            try simp only [RC]
            refine Wk.same ?_
            try simp only [RC]
            exact hN91 (10, x0, _, _) hq
        · refine wp_region_i (by rfl) ?_
          simp only [go_sem, ↓evs_eq, Nat.reduceAdd, ↓reduceIte, Nat.reduceEqDiff, Nat.reduceBEq, Nat.reduceBNe, Nat.reduceLT, Int.reduceToNat, Int.reduceEq, Int.reduceLT, Int.reduceLE, reduceCtorEq, Nat.reduceMul, Nat.reduceLeDiff, S_api_Node.enc_eq]
          by_cases hc117 : (1 : Int) < (List.length x0 : Int)
          · replace hq := (R.post_if hq).1 hc117
            obtain ⟨g118, hq⟩ := R.guard hq
            simp only [decide_eq_true hc117, go_sem, ↓evs_eq, Nat.reduceAdd, ↓reduceIte, Nat.reduceEqDiff, Nat.reduceBEq, Nat.reduceBNe, Nat.reduceLT, Int.reduceToNat, Int.reduceEq, Int.reduceLT, Int.reduceLE, reduceCtorEq, Nat.reduceMul, Nat.reduceLeDiff, S_api_Node.enc_eq]
            repeat (with_reducible refine And.intro (by first | omega | assumption) ?_)
            exact hN116 (decide (((List.getD x0 0 0).toNat : Int) = 48)) hq
          · replace hq := (R.post_if hq).2 hc117
            simp only [decide_eq_false hc117, go_sem, ↓evs_eq, Nat.reduceAdd, ↓reduceIte, Nat.reduceEqDiff, Nat.reduceBEq, Nat.reduceBNe, Nat.reduceLT, Int.reduceToNat, Int.reduceEq, Int.reduceLT, Int.reduceLE, reduceCtorEq, Nat.reduceMul, Nat.reduceLeDiff, S_api_Node.enc_eq]
            exact hN116 false hq
    · refine wp_region_i (by rfl) ?_
      simp only [go_sem, ↓evs_eq, Nat.reduceAdd, ↓reduceIte, Nat.reduceEqDiff, Nat.reduceBEq, Nat.reduceBNe, Nat.reduceLT, Int.reduceToNat, Int.reduceEq, Int.reduceLT, Int.reduceLE, reduceCtorEq, Nat.reduceMul, Nat.reduceLeDiff, S_api_Node.enc_eq]
      by_cases hc102 : (2 : Int) < (List.length x0 : Int)
      · replace hq := (R.post_if hq).1 hc102
        obtain ⟨g103, hq⟩ := R.guard hq
        simp only [decide_eq_true hc102, go_sem, ↓evs_eq, Nat.reduceAdd, ↓reduceIte, Nat.reduceEqDiff, Nat.reduceBEq, Nat.reduceBNe, Nat.reduceLT, Int.reduceToNat, Int.reduceEq, Int.reduceLT, Int.reduceLE, reduceCtorEq, Nat.reduceMul, Nat.reduceLeDiff, S_api_Node.enc_eq]
        repeat (with_reducible refine And.intro (by first | omega | assumption) ?_)
        by_cases hc104 : ((List.getD x0 0 0).toNat : Int) = 48
        · replace hq := (R.post_if hq).1 hc104
          obtain ⟨g105, hq⟩ := R.guard hq
          simp only [decide_eq_true hc104, go_sem, ↓evs_eq, Nat.reduceAdd, ↓reduceIte, Nat.reduceEqDiff, Nat.reduceBEq, Nat.reduceBNe, Nat.reduceLT, Int.reduceToNat, Int.reduceEq, Int.reduceLT, Int.reduceLE, reduceCtorEq, Nat.reduceMul, Nat.reduceLeDiff, S_api_Node.enc_eq]
          repeat (with_reducible refine And.intro (by first | omega | assumption) ?_)
          by_cases hc106 : ((List.getD x0 1 0).toNat : Int) = 120
          · replace hq := (R.post_if hq).1 hc106
            simp only [decide_eq_true hc106, go_sem, ↓evs_eq, Nat.reduceAdd, ↓reduceIte, Nat.reduceEqDiff, Nat.reduceBEq, Nat.reduceBNe, Nat.reduceLT, Int.reduceToNat, Int.reduceEq, Int.reduceLT, Int.reduceLE, reduceCtorEq, Nat.reduceMul, Nat.reduceLeDiff, S_api_Node.enc_eq]
            exact hN101 true hq
          · replace hq := (R.post_if hq).2 hc106
            obtain ⟨g107, hq⟩ := R.guard hq
            simp only [decide_eq_false hc106, go_sem, ↓evs_eq, Nat.reduceAdd, ↓reduceIte, Nat.reduceEqDiff, Nat.reduceBEq, Nat.reduceBNe, Nat.reduceLT, Int.reduceToNat, Int.reduceEq, Int.reduceLT, Int.reduceLE, reduceCtorEq, Nat.reduceMul, Nat.reduceLeDiff, S_api_Node.enc_eq]
            repeat (with_reducible refine And.intro (by first | omega | assumption) ?_)
            exact hN101 (decide (((List.getD x0 1 0).toNat : Int) = 88)) hq
        · replace hq := (R.post_if hq).2 hc104
          simp only [decide_eq_false hc104, go_sem, ↓evs_eq, Nat.reduceAdd, ↓reduceIte, Nat.reduceEqDiff, Nat.reduceBEq, Nat.reduceBNe, Nat.reduceLT, Int.reduceToNat, Int.reduceEq, Int.reduceLT, Int.reduceLE, reduceCtorEq, Nat.reduceMul, Nat.reduceLeDiff, S_api_Node.enc_eq]
          exact hN101 false hq
      · replace hq := (R.post_if hq).2 hc102
        simp only [decide_eq_false hc102, go_sem, ↓evs_eq, Nat.reduceAdd, ↓reduceIte, Nat.reduceEqDiff, Nat.reduceBEq, Nat.reduceBNe, Nat.reduceLT, Int.reduceToNat, Int.reduceEq, Int.reduceLT, Int.reduceLE, reduceCtorEq, Nat.reduceMul, Nat.reduceLeDiff, S_api_Node.enc_eq]
        exact hN101 false hq

def glossaryref01_Digits_j0 (x3_11 : List UInt8) : R ((List UInt8)) :=
  R.ok x3_11
def glossaryref01_Digits_l1 : Nat → Int → List UInt8 → R ((List UInt8))
  | 0, _, _ => R.stuck
  | k + 1, x0_13, x3_13 => (if (0 : Int) < x0_13 then (R.ok true) else (R.ok (decide (x3_13 = [])))).bind fun x9m23 => if x9m23 = true then (if List.length ((Utf8.encode (IntKind.wrap .i32 (IntKind.wrap .u64 (48 + (Int.tmod x0_13 10))))).data.toList) + List.length x3_13 ≤ 1000000000 then (glossaryref01_Digits_l1 k (IntKind.wrap .u64 (Int.tdiv x0_13 10)) (((Utf8.encode (IntKind.wrap .i32 (IntKind.wrap .u64 (48 + (Int.tmod x0_13 10))))).data.toList) ++ x3_13)) else R.stuck) else (R.ok x3_13)
def glossaryref01_Digits (x0 : Int) : R ((List UInt8)) :=
  (glossaryref01_Digits_l1 Many x0 []).bind fun x3p32 => glossaryref01_Digits_j0 x3p32
theorem glossaryref01_Digits_call {h : H} {x0 : Int} {Q : Out → H → Prop} {KK : ((List UInt8)) → Prop} {X : V → Prop} (hq : (glossaryref01_Digits x0).post KK X) (hK : ∀ r, KK r → Q (.ret (.str r)) h) (hX : ∀ v, X v → V.Cl 0 v ∧ Q (.panic v) h) : CA qprim 55 [.int .u64 x0] h Q := by
  refine acalln hp Tryz.func55 rfl (by kernel_rfl) (n := 20) rfl (rs := [.tmp 2]) rfl [0, 2, 3, 9] [] false (by simp) ?_
  unfold glossaryref01_Digits at hq
  simp only [initEnv, List.map_cons, List.map_nil, List.getD_cons_zero, List.getD_cons_succ, List.getD_nil, V.demote]
  rw [wp_seq]
  refine wp_region_i (by rfl) ?_
  simp only [go_sem, ↓evs_eq, Nat.reduceAdd, ↓reduceIte, Nat.reduceEqDiff, Nat.reduceBEq, Nat.reduceBNe, Nat.reduceLT, Int.reduceToNat, Int.reduceEq, Int.reduceLT, Int.reduceLE, reduceCtorEq, Nat.reduceMul, Nat.reduceLeDiff, S_api_Node.enc_eq]
  rw [wp_seq]
  refine wp_region_i (by rfl) ?_
  simp only [go_sem, ↓evs_eq, Nat.reduceAdd, ↓reduceIte, Nat.reduceEqDiff, Nat.reduceBEq, Nat.reduceBNe, Nat.reduceLT, Int.reduceToNat, Int.reduceEq, Int.reduceLT, Int.reduceLE, reduceCtorEq, Nat.reduceMul, Nat.reduceLeDiff, S_api_Node.enc_eq]
  refine seq_gen (acall_mono hp) (σ := V × (List UInt8) × V) (fun s => [(0, s.1), (2, .str []), (3, .str s.2.1), (9, s.2.2)]) (fun s => h) (fun s => (glossaryref01_Digits_j0 s.2.1).post KK X) (fun s hq => ?_) (fun N hN12 => ?_)
  · obtain ⟨y0_11, x3_11, y9_11⟩ := s
    try dsimp only at hq ⊢
    unfold glossaryref01_Digits_j0 at hq
    rw [wp_seq]
    refine wp_region_i (by rfl) ?_
    simp only [go_sem, ↓evs_eq, Nat.reduceAdd, ↓reduceIte, Nat.reduceEqDiff, Nat.reduceBEq, Nat.reduceBNe, Nat.reduceLT, Int.reduceToNat, Int.reduceEq, Int.reduceLT, Int.reduceLE, reduceCtorEq, Nat.reduceMul, Nat.reduceLeDiff, S_api_Node.enc_eq]
    rw [wp_ret]
    simp only [retQ, results, resultAll, resultOne, Nat.zero_add, scopeQ, go_sem, ↓evs_eq, Nat.reduceAdd, ↓reduceIte, Nat.reduceEqDiff, Nat.reduceBEq, Nat.reduceBNe, Nat.reduceLT, Int.reduceToNat, Int.reduceEq, Int.reduceLT, Int.reduceLE, reduceCtorEq, Nat.reduceMul, Nat.reduceLeDiff, S_api_Node.enc_eq]
    refine ⟨_, (.refl _), ?_⟩
    exact hK _ hq
  · rw [wp_block]
    refine loop_in ?_
    refine Wk.same ?_
    obtain ⟨K19, hK20, hq⟩ := R.post_cut hq
    refine loop_gen (acall_mono hp) (σ := Int × (List UInt8) × V) (fun s => [(0, .int .u64 s.1), (2, .str []), (3, .str s.2.1), (9, s.2.2)]) (fun s => h) (fun k s => (glossaryref01_Digits_l1 k s.1 s.2.1).post K19 X) (fun s hs => hs) (fun k31 s hq N hN21 => ?_) _ (x0, [], _) hq
    obtain ⟨x0_13, x3_13, y9_13⟩ := s
    try dsimp only at hq ⊢
    rw [glossaryref01_Digits_l1] at hq
    rw [wp_seq]
    obtain ⟨K24, hK25, hq⟩ := R.post_cut hq
    refine seq_gen (acall_mono hp) (σ := Bool) (fun s => [(0, .int .u64 x0_13), (2, .str []), (3, .str x3_13), (9, .bool s)]) (fun s => h) (fun s => K24 s) (fun x9m23 hq => ?_) (fun N hN26 => ?_)
    · replace hq := hK25 _ hq
      try dsimp only at hq ⊢
      rw [wp_cond]
      simp only [go_sem, ↓evs_eq, Nat.reduceAdd, ↓reduceIte, Nat.reduceEqDiff, Nat.reduceBEq, Nat.reduceBNe, Nat.reduceLT, Int.reduceToNat, Int.reduceEq, Int.reduceLT, Int.reduceLE, reduceCtorEq, Nat.reduceMul, Nat.reduceLeDiff, S_api_Node.enc_eq]
      by_cases hc28 : x9m23 = true
      · replace hq := (R.post_if hq).1 hc28
        refine condK_t (congrArg V.bool (hc28)) ?_
        try simp only [wp_skip, RC]
        refine Wk.same ?_
        try simp only [RC]
        rw [wp_block]
        rw [wp_seq]
        refine wp_region_i (by rfl) ?_
        obtain ⟨g30, hq⟩ := R.guard hq
        simp only [go_sem, ↓evs_eq, Nat.reduceAdd, ↓reduceIte, Nat.reduceEqDiff, Nat.reduceBEq, Nat.reduceBNe, Nat.reduceLT, Int.reduceToNat, Int.reduceEq, Int.reduceLT, Int.reduceLE, reduceCtorEq, Nat.reduceMul, Nat.reduceLeDiff, S_api_Node.enc_eq]
        repeat (with_reducible refine And.intro (by first | omega | assumption) ?_)
        refine wp_region_i (by rfl) ?_
        simp only [go_sem, ↓evs_eq, Nat.reduceAdd, ↓reduceIte, Nat.reduceEqDiff, Nat.reduceBEq, Nat.reduceBNe, Nat.reduceLT, Int.reduceToNat, Int.reduceEq, Int.reduceLT, Int.reduceLE, reduceCtorEq, Nat.reduceMul, Nat.reduceLeDiff, S_api_Node.enc_eq]
        refine Wk.le (EnvLe.cons (.refl _) (EnvLe.cons (.refl _) (EnvLe.cons (.refl _) (EnvLe.cons (.top _) EnvLe.nil)))) ?_
        try simp only [RC]
        refine Wk.same ?_
        exact hN21 ((IntKind.wrap .u64 (Int.tdiv x0_13 10)), (((Utf8.encode (IntKind.wrap .i32 (IntKind.wrap .u64 (48 + (Int.tmod x0_13 10))))).data.toList) ++ x3_13), _) hq
      · replace hq := (R.post_if hq).2 hc28
        replace hc28 := eq_false_of_ne_true hc28
        refine condK_f (congrArg V.bool (hc28)) ?_
        rw [wp_exit]
        try simp only [↓reduceIte, Nat.reduceEqDiff, reduceCtorEq, if_false, if_true, eq_self, Nat.succ_ne_self, RC]
        replace hq := hK20 _ hq
        try dsimp only at hq
        refine Wk.le (EnvLe.cons (.top _) (EnvLe.cons (.refl _) (EnvLe.cons (.refl _) (EnvLe.cons (.top _) EnvLe.nil)))) ?_
        try simp only [RC]
        exact hN12 (_, x3_13, _) hq
    · refine wp_region_i (by rfl) ?_
      simp only [go_sem, ↓evs_eq, Nat.reduceAdd, ↓reduceIte, Nat.reduceEqDiff, Nat.reduceBEq, Nat.reduceBNe, Nat.reduceLT, Int.reduceToNat, Int.reduceEq, Int.reduceLT, Int.reduceLE, reduceCtorEq, Nat.reduceMul, Nat.reduceLeDiff, S_api_Node.enc_eq]
      by_cases hc27 : (0 : Int) < x0_13
      · replace hq := (R.post_if hq).1 hc27
        simp only [decide_eq_true hc27, go_sem, ↓evs_eq, Nat.reduceAdd, ↓reduceIte, Nat.reduceEqDiff, Nat.reduceBEq, Nat.reduceBNe, Nat.reduceLT, Int.reduceToNat, Int.reduceEq, Int.reduceLT, Int.reduceLE, reduceCtorEq, Nat.reduceMul, Nat.reduceLeDiff, S_api_Node.enc_eq]
        exact hN26 true hq
      · replace hq := (R.post_if hq).2 hc27
        simp only [decide_eq_false hc27, go_sem, ↓evs_eq, Nat.reduceAdd, ↓reduceIte, Nat.reduceEqDiff, Nat.reduceBEq, Nat.reduceBNe, Nat.reduceLT, Int.reduceToNat, Int.reduceEq, Int.reduceLT, Int.reduceLE, reduceCtorEq, Nat.reduceMul, Nat.reduceLeDiff, S_api_Node.enc_eq]
        exact hN26 (decide (x3_13 = [])) hq

def glossaryref07_Int_j0 (x5_7 : List UInt8) (x6_7 : Bool) : R (Int × Bool × Bool) :=
  (glossaryref01_Number x5_7).bind fun r11 => (if r11.2 = true then ((glossaryref01_Digits r11.1).bind fun r33 => if r33 = x5_7 then (if x6_7 = true then (if r11.1 = 0 then (R.ok (true, true)) else (R.ok (true, (decide ((9223372036854775808 : Int) < r11.1))))) else (R.ok (false, false))) else (R.ok (x6_7, true))) else (R.ok (x6_7, true))).bind fun (x6m28, x42m28) => if x42m28 = true then (R.ok (0, false, false)) else (R.ok (r11.1, x6m28, true))
def glossaryref07_Int (x0 : List UInt8) : R (Int × Bool × Bool) :=
  (if x0 = [] then (R.ok false) else (if 0 ≤ 0 ∧ 0 < (List.length x0 : Int) then (R.ok (decide (((List.getD x0 0 0).toNat : Int) = 45))) else R.stuck)).bind fun x16m45 => if x16m45 = true then (if 0 ≤ 1 ∧ 1 ≤ (List.length x0 : Int) then (glossaryref07_Int_j0 (List.drop 1 x0) true) else R.stuck) else (glossaryref07_Int_j0 x0 false)
theorem glossaryref07_Int_call {h : H} {x0 : List UInt8} {Q : Out → H → Prop} {KK : (Int × Bool × Bool) → Prop} {X : V → Prop} (hq : (glossaryref07_Int x0).post KK X) (hK : ∀ r, KK r → Q (.ret (.tup [.int .u64 r.1, .bool r.2.1, .bool r.2.2])) h) (hX : ∀ v, X v → V.Cl 0 v ∧ Q (.panic v) h) : CA qprim 27 [.str x0] h Q := by
  refine acalln hp Tryz.func27 rfl (by kernel_rfl) (n := 45) rfl (rs := [.tmp 2, .tmp 3, .tmp 4]) rfl [0, 2, 3, 4, 5, 6, 7, 8, 16, 42] [] false (by simp) ?_
  unfold glossaryref07_Int at hq
  simp only [initEnv, List.map_cons, List.map_nil, List.getD_cons_zero, List.getD_cons_succ, List.getD_nil, V.demote]
  rw [wp_seq]
  refine wp_region_i (by rfl) ?_
  simp only [go_sem, ↓evs_eq, Nat.reduceAdd, ↓reduceIte, Nat.reduceEqDiff, Nat.reduceBEq, Nat.reduceBNe, Nat.reduceLT, Int.reduceToNat, Int.reduceEq, Int.reduceLT, Int.reduceLE, reduceCtorEq, Nat.reduceMul, Nat.reduceLeDiff, S_api_Node.enc_eq]
  rw [wp_seq]
  refine wp_region_i (by rfl) ?_
  simp only [go_sem, ↓evs_eq, Nat.reduceAdd, ↓reduceIte, Nat.reduceEqDiff, Nat.reduceBEq, Nat.reduceBNe, Nat.reduceLT, Int.reduceToNat, Int.reduceEq, Int.reduceLT, Int.reduceLE, reduceCtorEq, Nat.reduceMul, Nat.reduceLeDiff, S_api_Node.enc_eq]
  refine seq_gen (acall_mono hp) (σ := (List UInt8) × Bool × V) (fun s => [(0, .str x0), (2, .int .u64 0), (3, .bool false), (4, .bool false), (5, .str s.1), (6, .bool s.2.1), (7, .top), (8, .top), (16, s.2.2), (42, .top)]) (fun s => h) (fun s => (glossaryref07_Int_j0 s.1 s.2.1).post KK X) (fun s hq => ?_) (fun N hN42 => ?_)
  · obtain ⟨x5_7, x6_7, y16_7⟩ := s
    try dsimp only at hq ⊢
    unfold glossaryref07_Int_j0 at hq
    rw [wp_seq]
    refine wp_region_i (by rfl) ?_
    simp only [go_sem, ↓evs_eq, Nat.reduceAdd, ↓reduceIte, Nat.reduceEqDiff, Nat.reduceBEq, Nat.reduceBNe, Nat.reduceLT, Int.reduceToNat, Int.reduceEq, Int.reduceLT, Int.reduceLE, reduceCtorEq, Nat.reduceMul, Nat.reduceLeDiff, S_api_Node.enc_eq]
    obtain ⟨K40, hK41, hq⟩ := R.post_cut hq
    refine glossaryref01_Number_call (x0 := x5_7) hq (fun r11 hq => ?_) (fun v hv => ⟨(hX v hv).1, ?_⟩)
    · replace hq := hK41 _ hq
      simp only [go_sem, ↓evs_eq, Nat.reduceAdd, ↓reduceIte, Nat.reduceEqDiff, Nat.reduceBEq, Nat.reduceBNe, Nat.reduceLT, Int.reduceToNat, Int.reduceEq, Int.reduceLT, Int.reduceLE, reduceCtorEq, Nat.reduceMul, Nat.reduceLeDiff, S_api_Node.enc_eq]
      rw [wp_seq]
      obtain ⟨K29, hK30, hq⟩ := R.post_cut hq
      refine seq_gen (acall_mono hp) (σ := Bool × V × Bool) (fun s => [(0, .str x0), (2, .int .u64 0), (3, .bool false), (4, .bool false), (5, .str x5_7), (6, .bool s.1), (7, .int .u64 r11.1), (8, s.2.1), (16, y16_7), (42, .bool s.2.2)]) (fun s => h) (fun s => K29 (s.1, s.2.2)) (fun s hq => ?_) (fun N hN31 => ?_)
      · obtain ⟨x6m28, y8m28, x42m28⟩ := s
        replace hq := hK30 _ hq
        try dsimp only at hq ⊢
        rw [wp_cond]
        simp only [go_sem, ↓evs_eq, Nat.reduceAdd, ↓reduceIte, Nat.reduceEqDiff, Nat.reduceBEq, Nat.reduceBNe, Nat.reduceLT, Int.reduceToNat, Int.reduceEq, Int.reduceLT, Int.reduceLE, reduceCtorEq, Nat.reduceMul, Nat.reduceLeDiff, S_api_Node.enc_eq]
        by_cases hc39 : x42m28 = true
        · replace hq := (R.post_if hq).1 hc39
          refine condK_t (congrArg V.bool (hc39)) ?_
          rw [wp_seq]
          refine wp_region_i (by rfl) ?_
          simp only [go_sem, ↓evs_eq, Nat.reduceAdd, ↓reduceIte, Nat.reduceEqDiff, Nat.reduceBEq, Nat.reduceBNe, Nat.reduceLT, Int.reduceToNat, Int.reduceEq, Int.reduceLT, Int.reduceLE, reduceCtorEq, Nat.reduceMul, Nat.reduceLeDiff, S_api_Node.enc_eq]
          rw [wp_ret]
          simp only [retQ, results, resultAll, resultOne, Nat.zero_add, scopeQ, go_sem, ↓evs_eq, Nat.reduceAdd, ↓reduceIte, Nat.reduceEqDiff, Nat.reduceBEq, Nat.reduceBNe, Nat.reduceLT, Int.reduceToNat, Int.reduceEq, Int.reduceLT, Int.reduceLE, reduceCtorEq, Nat.reduceMul, Nat.reduceLeDiff, S_api_Node.enc_eq]
          refine ⟨_, (.refl _), ?_⟩
          exact hK _ hq
        · replace hq := (R.post_if hq).2 hc39
          replace hc39 := eq_false_of_ne_true hc39
          refine condK_f (congrArg V.bool (hc39)) ?_
          try simp only [wp_skip, RC]
          refine Wk.same ?_
          try simp only [RC]
          rw [wp_seq]
          refine wp_region_i (by rfl) ?_
          simp only [go_sem, ↓evs_eq, Nat.reduceAdd, ↓reduceIte, Nat.reduceEqDiff, Nat.reduceBEq, Nat.reduceBNe, Nat.reduceLT, Int.reduceToNat, Int.reduceEq, Int.reduceLT, Int.reduceLE, reduceCtorEq, Nat.reduceMul, Nat.reduceLeDiff, S_api_Node.enc_eq]
          rw [wp_ret]
          simp only [retQ, results, resultAll, resultOne, Nat.zero_add, scopeQ, go_sem, ↓evs_eq, Nat.reduceAdd, ↓reduceIte, Nat.reduceEqDiff, Nat.reduceBEq, Nat.reduceBNe, Nat.reduceLT, Int.reduceToNat, Int.reduceEq, Int.reduceLT, Int.reduceLE, reduceCtorEq, Nat.reduceMul, Nat.reduceLeDiff, S_api_Node.enc_eq]
          refine ⟨_, (.refl _), ?_⟩
          exact hK _ hq
      · refine wp_region_i (by rfl) ?_
        simp only [go_sem, ↓evs_eq, Nat.reduceAdd, ↓reduceIte, Nat.reduceEqDiff, Nat.reduceBEq, Nat.reduceBNe, Nat.reduceLT, Int.reduceToNat, Int.reduceEq, Int.reduceLT, Int.reduceLE, reduceCtorEq, Nat.reduceMul, Nat.reduceLeDiff, S_api_Node.enc_eq]
        by_cases hc32 : r11.2 = true
        · replace hq := (R.post_if hq).1 hc32
          simp only [hc32, go_sem, ↓evs_eq, Nat.reduceAdd, ↓reduceIte, Nat.reduceEqDiff, Nat.reduceBEq, Nat.reduceBNe, Nat.reduceLT, Int.reduceToNat, Int.reduceEq, Int.reduceLT, Int.reduceLE, reduceCtorEq, Nat.reduceMul, Nat.reduceLeDiff, S_api_Node.enc_eq]
          obtain ⟨K37, hK38, hq⟩ := R.post_cut hq
          refine glossaryref01_Digits_call (x0 := r11.1) hq (fun r33 hq => ?_) (fun v hv => ⟨(hX v hv).1, ?_⟩)
          · replace hq := hK38 _ hq
            simp only [go_sem, ↓evs_eq, Nat.reduceAdd, ↓reduceIte, Nat.reduceEqDiff, Nat.reduceBEq, Nat.reduceBNe, Nat.reduceLT, Int.reduceToNat, Int.reduceEq, Int.reduceLT, Int.reduceLE, reduceCtorEq, Nat.reduceMul, Nat.reduceLeDiff, S_api_Node.enc_eq]
            by_cases hc34 : r33 = x5_7
            · replace hq := (R.post_if hq).1 hc34
              simp only [decide_eq_true hc34, go_sem, ↓evs_eq, Nat.reduceAdd, ↓reduceIte, Nat.reduceEqDiff, Nat.reduceBEq, Nat.reduceBNe, Nat.reduceLT, Int.reduceToNat, Int.reduceEq, Int.reduceLT, Int.reduceLE, reduceCtorEq, Nat.reduceMul, Nat.reduceLeDiff, S_api_Node.enc_eq]
              by_cases hc35 : x6_7 = true
              · replace hq := (R.post_if hq).1 hc35
                simp only [hc35, go_sem, ↓evs_eq, Nat.reduceAdd, ↓reduceIte, Nat.reduceEqDiff, Nat.reduceBEq, Nat.reduceBNe, Nat.reduceLT, Int.reduceToNat, Int.reduceEq, Int.reduceLT, Int.reduceLE, reduceCtorEq, Nat.reduceMul, Nat.reduceLeDiff, S_api_Node.enc_eq]
                by_cases hc36 : r11.1 = 0
                · replace hq := (R.post_if hq).1 hc36
                  simp only [decide_eq_true hc36, go_sem, ↓evs_eq, Nat.reduceAdd, ↓reduceIte, Nat.reduceEqDiff, Nat.reduceBEq, Nat.reduceBNe, Nat.reduceLT, Int.reduceToNat, Int.reduceEq, Int.reduceLT, Int.reduceLE, reduceCtorEq, Nat.reduceMul, Nat.reduceLeDiff, S_api_Node.enc_eq]
                  exact hN31 (true, _, true) hq
                · replace hq := (R.post_if hq).2 hc36
                  simp only [decide_eq_false hc36, go_sem, ↓evs_eq, Nat.reduceAdd, ↓reduceIte, Nat.reduceEqDiff, Nat.reduceBEq, Nat.reduceBNe, Nat.reduceLT, Int.reduceToNat, Int.reduceEq, Int.reduceLT, Int.reduceLE, reduceCtorEq, Nat.reduceMul, Nat.reduceLeDiff, S_api_Node.enc_eq]
                  exact hN31 (true, _, (decide ((9223372036854775808 : Int) < r11.1))) hq
              · replace hq := (R.post_if hq).2 hc35
                replace hc35 := eq_false_of_ne_true hc35
                simp only [hc35, go_sem, ↓evs_eq, Nat.reduceAdd, ↓reduceIte, Nat.reduceEqDiff, Nat.reduceBEq, Nat.reduceBNe, Nat.reduceLT, Int.reduceToNat, Int.reduceEq, Int.reduceLT, Int.reduceLE, reduceCtorEq, Nat.reduceMul, Nat.reduceLeDiff, S_api_Node.enc_eq]
                exact hN31 (false, _, false) hq
            · replace hq := (R.post_if hq).2 hc34
              simp only [decide_eq_false hc34, go_sem, ↓evs_eq, Nat.reduceAdd, ↓reduceIte, Nat.reduceEqDiff, Nat.reduceBEq, Nat.reduceBNe, Nat.reduceLT, Int.reduceToNat, Int.reduceEq, Int.reduceLT, Int.reduceLE, reduceCtorEq, Nat.reduceMul, Nat.reduceLeDiff, S_api_Node.enc_eq]
              exact hN31 (x6_7, _, true) hq
          · simp only [RC, scopeQ, retQ, ↓reduceIte, Bool.false_eq_true]
            exact (hX _ hv).2
        · replace hq := (R.post_if hq).2 hc32
          replace hc32 := eq_false_of_ne_true hc32
          simp only [hc32, go_sem, ↓evs_eq, Nat.reduceAdd, ↓reduceIte, Nat.reduceEqDiff, Nat.reduceBEq, Nat.reduceBNe, Nat.reduceLT, Int.reduceToNat, Int.reduceEq, Int.reduceLT, Int.reduceLE, reduceCtorEq, Nat.reduceMul, Nat.reduceLeDiff, S_api_Node.enc_eq]
          exact hN31 (x6_7, _, true) hq
    · simp only [RC, scopeQ, retQ, ↓reduceIte, Bool.false_eq_true]
      exact (hX _ hv).2
  · obtain ⟨K46, hK47, hq⟩ := R.post_cut hq
    refine seq_gen (acall_mono hp) (σ := Bool) (fun s => [(0, .str x0), (2, .int .u64 0), (3, .bool false), (4, .bool false), (5, .str x0), (6, .bool false), (7, .top), (8, .top), (16, .bool s), (42, .top)]) (fun s => h) (fun s => K46 s) (fun x16m45 hq => ?_) (fun N hN48 => ?_)
    · replace hq := hK47 _ hq
      try dsimp only at hq ⊢
      rw [wp_cond]
      simp only [go_sem, ↓evs_eq, Nat.reduceAdd, ↓reduceIte, Nat.reduceEqDiff, Nat.reduceBEq, Nat.reduceBNe, Nat.reduceLT, Int.reduceToNat, Int.reduceEq, Int.reduceLT, Int.reduceLE, reduceCtorEq, Nat.reduceMul, Nat.reduceLeDiff, S_api_Node.enc_eq]
      by_cases hc51 : x16m45 = true
      · replace hq := (R.post_if hq).1 hc51
        refine condK_t (congrArg V.bool (hc51)) ?_
        refine wp_region_i (by rfl) ?_
        obtain ⟨g53, hq⟩ := R.guard hq
        simp only [go_sem, ↓evs_eq, Nat.reduceAdd, ↓reduceIte, Nat.reduceEqDiff, Nat.reduceBEq, Nat.reduceBNe, Nat.reduceLT, Int.reduceToNat, Int.reduceEq, Int.reduceLT, Int.reduceLE, reduceCtorEq, Nat.reduceMul, Nat.reduceLeDiff, S_api_Node.enc_eq]
        repeat (with_reducible refine And.intro (by first | omega | assumption) ?_)
        refine Wk.le (EnvLe.cons (.refl _) (EnvLe.cons (.refl _) (EnvLe.cons (.refl _) (EnvLe.cons (.refl _) (EnvLe.cons (.refl _) (EnvLe.cons (.refl _) (EnvLe.cons (.refl _) (EnvLe.cons (.refl _) (EnvLe.cons (.top _) (EnvLe.cons (.refl _) EnvLe.nil)))))))))) ?_
        try simp only [RC]
        exact hN42 ((List.drop 1 x0), true, _) hq
      · replace hq := (R.post_if hq).2 hc51
        replace hc51 := eq_false_of_ne_true hc51
        refine condK_f (congrArg V.bool (hc51)) ?_
        try simp only [wp_skip, RC]
        refine Wk.le (EnvLe.cons (.refl _) (EnvLe.cons (.refl _) (EnvLe.cons (.refl _) (EnvLe.cons (.refl _) (EnvLe.cons (.refl _) (EnvLe.cons (.refl _) (EnvLe.cons (.refl _) (EnvLe.cons (.refl _) (EnvLe.cons (.top _) (EnvLe.cons (.refl _) EnvLe.nil)))))))))) ?_
        try simp only [RC]
        exact hN42 (x0, false, _) hq
    · refine wp_region_i (by rfl) ?_
      simp only [go_sem, ↓evs_eq, Nat.reduceAdd, ↓reduceIte, Nat.reduceEqDiff, Nat.reduceBEq, Nat.reduceBNe, Nat.reduceLT, Int.reduceToNat, Int.reduceEq, Int.reduceLT, Int.reduceLE, reduceCtorEq, Nat.reduceMul, Nat.reduceLeDiff, S_api_Node.enc_eq]
      by_cases hc49 : x0 = []
      · replace hq := (R.post_if hq).1 hc49
        simp only [decide_eq_true hc49, go_sem, ↓evs_eq, Nat.reduceAdd, ↓reduceIte, Nat.reduceEqDiff, Nat.reduceBEq, Nat.reduceBNe, Nat.reduceLT, Int.reduceToNat, Int.reduceEq, Int.reduceLT, Int.reduceLE, reduceCtorEq, Nat.reduceMul, Nat.reduceLeDiff, S_api_Node.enc_eq]
        exact hN48 false hq
      · replace hq := (R.post_if hq).2 hc49
        obtain ⟨g50, hq⟩ := R.guard hq
        simp only [decide_eq_false hc49, go_sem, ↓evs_eq, Nat.reduceAdd, ↓reduceIte, Nat.reduceEqDiff, Nat.reduceBEq, Nat.reduceBNe, Nat.reduceLT, Int.reduceToNat, Int.reduceEq, Int.reduceLT, Int.reduceLE, reduceCtorEq, Nat.reduceMul, Nat.reduceLeDiff, S_api_Node.enc_eq]
        repeat (with_reducible refine And.intro (by first | omega | assumption) ?_)
        exact hN48 (decide (((List.getD x0 0 0).toNat : Int) = 45)) hq

def glossaryref13_Within_j0 (r8 : Int × Bool × Bool) (x9m17 : Bool) (x11_28 : Int) : R (Int × Bool) :=
  if x9m17 = true then (R.ok ((IntKind.wrap .u64 (0 - r8.1)), (decide (r8.1 ≤ (IntKind.wrap .u64 (x11_28 + 1)))))) else (R.ok (r8.1, (decide (r8.1 ≤ x11_28))))
def glossaryref13_Within (x0 : Int) (x1 : List UInt8) : R (Int × Bool) :=
  (glossaryref13_Bits x0).bind fun r4 => (glossaryref07_Int x1).bind fun r8 => (if r4.1 = 0 then (R.ok (r8.2.1, true)) else (if r8.2.2 = true then (if r8.2.1 = true then (R.ok (true, (!r4.2))) else (R.ok (false, false))) else (R.ok (r8.2.1, true)))).bind fun (x9m17, x35m17) => if x35m17 = true then (R.ok (0, false)) else (if 0 ≤ (IntKind.wrap .u64 (IntKind.wrap .i64 (r4.1 - 1))) then (if r4.2 = true then (glossaryref13_Within_j0 r8 x9m17 (IntKind.wrap .u64 ((IntKind.wrap .u64 (1 * 2 ^ (min (Int.toNat (IntKind.wrap .u64 (IntKind.wrap .i64 (r4.1 - 1)))) 64))) - 1))) else (glossaryref13_Within_j0 r8 x9m17 (IntKind.wrap .u64 ((IntKind.wrap .u64 (2 * (IntKind.wrap .u64 ((IntKind.wrap .u64 (1 * 2 ^ (min (Int.toNat (IntKind.wrap .u64 (IntKind.wrap .i64 (r4.1 - 1)))) 64))) - 1)))) + 1)))) else R.stuck)
theorem glossaryref13_Within_call {h : H} {x0 : Int} {x1 : List UInt8} {Q : Out → H → Prop} {KK : (Int × Bool) → Prop} {X : V → Prop} (hq : (glossaryref13_Within x0 x1).post KK X) (hK : ∀ r, KK r → Q (.ret (.tup [.int .u64 r.1, .bool r.2])) h) (hX : ∀ v, X v → V.Cl 0 v ∧ Q (.panic v) h) : CA qprim 19 [.int .i64 x0, .str x1] h Q := by
  refine acalln hp Tryz.func19 rfl (by kernel_rfl) (n := 57) rfl (rs := [.tmp 4, .tmp 5]) rfl [0, 1, 4, 5, 6, 7, 8, 9, 10, 11, 35, 42, 46] [] false (by simp) ?_
  unfold glossaryref13_Within at hq
  simp only [initEnv, List.map_cons, List.map_nil, List.getD_cons_zero, List.getD_cons_succ, List.getD_nil, V.demote]
  rw [wp_seq]
  refine wp_region_i (by rfl) ?_
  simp only [go_sem, ↓evs_eq, Nat.reduceAdd, ↓reduceIte, Nat.reduceEqDiff, Nat.reduceBEq, Nat.reduceBNe, Nat.reduceLT, Int.reduceToNat, Int.reduceEq, Int.reduceLT, Int.reduceLE, reduceCtorEq, Nat.reduceMul, Nat.reduceLeDiff, S_api_Node.enc_eq]
  rw [wp_seq]
  refine wp_region_i (by rfl) ?_
  simp only [go_sem, ↓evs_eq, Nat.reduceAdd, ↓reduceIte, Nat.reduceEqDiff, Nat.reduceBEq, Nat.reduceBNe, Nat.reduceLT, Int.reduceToNat, Int.reduceEq, Int.reduceLT, Int.reduceLE, reduceCtorEq, Nat.reduceMul, Nat.reduceLeDiff, S_api_Node.enc_eq]
  obtain ⟨K35, hK36, hq⟩ := R.post_cut hq
  refine glossaryref13_Bits_call (x0 := x0) hq (fun r4 hq => ?_) (fun v hv => ⟨(hX v hv).1, ?_⟩)
  · replace hq := hK36 _ hq
    simp only [go_sem, ↓evs_eq, Nat.reduceAdd, ↓reduceIte, Nat.reduceEqDiff, Nat.reduceBEq, Nat.reduceBNe, Nat.reduceLT, Int.reduceToNat, Int.reduceEq, Int.reduceLT, Int.reduceLE, reduceCtorEq, Nat.reduceMul, Nat.reduceLeDiff, S_api_Node.enc_eq]
    rw [wp_seq]
    refine wp_region_i (by rfl) ?_
    simp only [go_sem, ↓evs_eq, Nat.reduceAdd, ↓reduceIte, Nat.reduceEqDiff, Nat.reduceBEq, Nat.reduceBNe, Nat.reduceLT, Int.reduceToNat, Int.reduceEq, Int.reduceLT, Int.reduceLE, reduceCtorEq, Nat.reduceMul, Nat.reduceLeDiff, S_api_Node.enc_eq]
    obtain ⟨K33, hK34, hq⟩ := R.post_cut hq
    refine glossaryref07_Int_call (x0 := x1) hq (fun r8 hq => ?_) (fun v hv => ⟨(hX v hv).1, ?_⟩)
    · replace hq := hK34 _ hq
      simp only [go_sem, ↓evs_eq, Nat.reduceAdd, ↓reduceIte, Nat.reduceEqDiff, Nat.reduceBEq, Nat.reduceBNe, Nat.reduceLT, Int.reduceToNat, Int.reduceEq, Int.reduceLT, Int.reduceLE, reduceCtorEq, Nat.reduceMul, Nat.reduceLeDiff, S_api_Node.enc_eq]
      rw [wp_seq]
      obtain ⟨K18, hK19, hq⟩ := R.post_cut hq
      refine seq_gen (acall_mono hp) (σ := Bool × V × Bool) (fun s => [(0, .int .i64 x0), (1, .str x1), (4, .int .u64 0), (5, .bool false), (6, .int .i64 r4.1), (7, .bool r4.2), (8, .int .u64 r8.1), (9, .bool s.1), (10, s.2.1), (11, .top), (35, .bool s.2.2), (42, .top), (46, .top)]) (fun s => h) (fun s => K18 (s.1, s.2.2)) (fun s hq => ?_) (fun N hN20 => ?_)
      · obtain ⟨x9m17, y10m17, x35m17⟩ := s
        replace hq := hK19 _ hq
        try dsimp only at hq ⊢
        rw [wp_cond]
        simp only [go_sem, ↓evs_eq, Nat.reduceAdd, ↓reduceIte, Nat.reduceEqDiff, Nat.reduceBEq, Nat.reduceBNe, Nat.reduceLT, Int.reduceToNat, Int.reduceEq, Int.reduceLT, Int.reduceLE, reduceCtorEq, Nat.reduceMul, Nat.reduceLeDiff, S_api_Node.enc_eq]
        by_cases hc24 : x35m17 = true
        · replace hq := (R.post_if hq).1 hc24
          refine condK_t (congrArg V.bool (hc24)) ?_
          rw [wp_seq]
          refine wp_region_i (by rfl) ?_
          simp only [go_sem, ↓evs_eq, Nat.reduceAdd, ↓reduceIte, Nat.reduceEqDiff, Nat.reduceBEq, Nat.reduceBNe, Nat.reduceLT, Int.reduceToNat, Int.reduceEq, Int.reduceLT, Int.reduceLE, reduceCtorEq, Nat.reduceMul, Nat.reduceLeDiff, S_api_Node.enc_eq]
          rw [wp_ret]
          simp only [retQ, results, resultAll, resultOne, Nat.zero_add, scopeQ, go_sem, ↓evs_eq, Nat.reduceAdd, ↓reduceIte, Nat.reduceEqDiff, Nat.reduceBEq, Nat.reduceBNe, Nat.reduceLT, Int.reduceToNat, Int.reduceEq, Int.reduceLT, Int.reduceLE, reduceCtorEq, Nat.reduceMul, Nat.reduceLeDiff, S_api_Node.enc_eq]
          refine ⟨_, (.refl _), ?_⟩
          exact hK _ hq
        · replace hq := (R.post_if hq).2 hc24
          replace hc24 := eq_false_of_ne_true hc24
          refine condK_f (congrArg V.bool (hc24)) ?_
          try simp only [wp_skip, RC]
          refine Wk.same ?_
          try simp only [RC]
          rw [wp_seq]
          refine wp_region_i (by rfl) ?_
          obtain ⟨g26, hq⟩ := R.guard hq
          simp only [go_sem, ↓evs_eq, Nat.reduceAdd, ↓reduceIte, Nat.reduceEqDiff, Nat.reduceBEq, Nat.reduceBNe, Nat.reduceLT, Int.reduceToNat, Int.reduceEq, Int.reduceLT, Int.reduceLE, reduceCtorEq, Nat.reduceMul, Nat.reduceLeDiff, S_api_Node.enc_eq]
          repeat (with_reducible refine And.intro (by first | omega | assumption) ?_)
          refine seq_gen (acall_mono hp) (σ := Int × V) (fun s => [(0, .int .i64 x0), (1, .str x1), (4, .int .u64 0), (5, .bool false), (6, .int .i64 r4.1), (7, .bool r4.2), (8, .int .u64 r8.1), (9, .bool x9m17), (10, y10m17), (11, .int .u64 s.1), (35, .bool x35m17), (42, s.2), (46, .top)]) (fun s => h) (fun s => (glossaryref13_Within_j0 r8 x9m17 s.1).post KK X) (fun s hq => ?_) (fun N hN31 => ?_)
          · obtain ⟨x11_28, y42_28⟩ := s
            try dsimp only at hq ⊢
            unfold glossaryref13_Within_j0 at hq
            rw [wp_seq]
            rw [wp_seq]
            refine wp_region_i (by rfl) ?_
            simp only [go_sem, ↓evs_eq, Nat.reduceAdd, ↓reduceIte, Nat.reduceEqDiff, Nat.reduceBEq, Nat.reduceBNe, Nat.reduceLT, Int.reduceToNat, Int.reduceEq, Int.reduceLT, Int.reduceLE, reduceCtorEq, Nat.reduceMul, Nat.reduceLeDiff, S_api_Node.enc_eq]
            rw [wp_cond]
            simp only [go_sem, ↓evs_eq, Nat.reduceAdd, ↓reduceIte, Nat.reduceEqDiff, Nat.reduceBEq, Nat.reduceBNe, Nat.reduceLT, Int.reduceToNat, Int.reduceEq, Int.reduceLT, Int.reduceLE, reduceCtorEq, Nat.reduceMul, Nat.reduceLeDiff, S_api_Node.enc_eq]
            by_cases hc30 : x9m17 = true
            · replace hq := (R.post_if hq).1 hc30
              refine condK_t (congrArg V.bool (hc30)) ?_
              rw [wp_seq]
              refine wp_region_i (by rfl) ?_
              simp only [go_sem, ↓evs_eq, Nat.reduceAdd, ↓reduceIte, Nat.reduceEqDiff, Nat.reduceBEq, Nat.reduceBNe, Nat.reduceLT, Int.reduceToNat, Int.reduceEq, Int.reduceLT, Int.reduceLE, reduceCtorEq, Nat.reduceMul, Nat.reduceLeDiff, S_api_Node.enc_eq]
              rw [wp_ret]
              simp only [retQ, results, resultAll, resultOne, Nat.zero_add, scopeQ, go_sem, ↓evs_eq, Nat.reduceAdd, ↓reduceIte, Nat.reduceEqDiff, Nat.reduceBEq, Nat.reduceBNe, Nat.reduceLT, Int.reduceToNat, Int.reduceEq, Int.reduceLT, Int.reduceLE, reduceCtorEq, Nat.reduceMul, Nat.reduceLeDiff, S_api_Node.enc_eq]
              refine ⟨_, (.refl _), ?_⟩
              exact hK _ hq
            · replace hq := (R.post_if hq).2 hc30
              replace hc30 := eq_false_of_ne_true hc30
              refine condK_f (congrArg V.bool (hc30)) ?_
              try simp only [wp_skip, RC]
              refine Wk.same ?_
              try simp only [RC]
              rw [wp_seq]
              refine wp_region_i (by rfl) ?_
              simp only [go_sem, ↓evs_eq, Nat.reduceAdd, ↓reduceIte, Nat.reduceEqDiff, Nat.reduceBEq, Nat.reduceBNe, Nat.reduceLT, Int.reduceToNat, Int.reduceEq, Int.reduceLT, Int.reduceLE, reduceCtorEq, Nat.reduceMul, Nat.reduceLeDiff, S_api_Node.enc_eq]
              rw [wp_ret]
              simp only [retQ, results, resultAll, resultOne, Nat.zero_add, scopeQ, go_sem, ↓evs_eq, Nat.reduceAdd, ↓reduceIte, Nat.reduceEqDiff, Nat.reduceBEq, Nat.reduceBNe, Nat.reduceLT, Int.reduceToNat, Int.reduceEq, Int.reduceLT, Int.reduceLE, reduceCtorEq, Nat.reduceMul, Nat.reduceLeDiff, S_api_Node.enc_eq]
              refine ⟨_, (.refl _), ?_⟩
              exact hK _ hq
          · rw [wp_seq]
            refine wp_region_i (by rfl) ?_
            simp only [go_sem, ↓evs_eq, Nat.reduceAdd, ↓reduceIte, Nat.reduceEqDiff, Nat.reduceBEq, Nat.reduceBNe, Nat.reduceLT, Int.reduceToNat, Int.reduceEq, Int.reduceLT, Int.reduceLE, reduceCtorEq, Nat.reduceMul, Nat.reduceLeDiff, S_api_Node.enc_eq]
            rw [wp_cond]
            simp only [go_sem, ↓evs_eq, Nat.reduceAdd, ↓reduceIte, Nat.reduceEqDiff, Nat.reduceBEq, Nat.reduceBNe, Nat.reduceLT, Int.reduceToNat, Int.reduceEq, Int.reduceLT, Int.reduceLE, reduceCtorEq, Nat.reduceMul, Nat.reduceLeDiff, S_api_Node.enc_eq]
            by_cases hc32 : r4.2 = true
            · replace hq := (R.post_if hq).1 hc32
              refine condK_f (congrArg (fun b => V.bool (!b)) (hc32)) ?_
              try simp only [wp_skip, RC]
              refine Wk.le (EnvLe.cons (.refl _) (EnvLe.cons (.refl _) (EnvLe.cons (.refl _) (EnvLe.cons (.refl _) (EnvLe.cons (.refl _) (EnvLe.cons (.refl _) (EnvLe.cons (.refl _) (EnvLe.cons (.refl _) (EnvLe.cons (.refl _) (EnvLe.cons (.refl _) (EnvLe.cons (.refl _) (EnvLe.cons (.top _) (EnvLe.cons (.refl _) EnvLe.nil))))))))))))) ?_
              try simp only [RC]
              exact hN31 ((IntKind.wrap .u64 ((IntKind.wrap .u64 (1 * 2 ^ (min (Int.toNat (IntKind.wrap .u64 (IntKind.wrap .i64 (r4.1 - 1)))) 64))) - 1)), _) hq
            · replace hq := (R.post_if hq).2 hc32
              replace hc32 := eq_false_of_ne_true hc32
              refine condK_t (congrArg (fun b => V.bool (!b)) (hc32)) ?_
              refine wp_region_i (by rfl) ?_
              simp only [go_sem, ↓evs_eq, Nat.reduceAdd, ↓reduceIte, Nat.reduceEqDiff, Nat.reduceBEq, Nat.reduceBNe, Nat.reduceLT, Int.reduceToNat, Int.reduceEq, Int.reduceLT, Int.reduceLE, reduceCtorEq, Nat.reduceMul, Nat.reduceLeDiff, S_api_Node.enc_eq]
              refine Wk.le (EnvLe.cons (.refl _) (EnvLe.cons (.refl _) (EnvLe.cons (.refl _) (EnvLe.cons (.refl _) (EnvLe.cons (.refl _) (EnvLe.cons (.refl _) (EnvLe.cons (.refl _) (EnvLe.cons (.refl _) (EnvLe.cons (.refl _) (EnvLe.cons (.refl _) (EnvLe.cons (.refl _) (EnvLe.cons (.top _) (EnvLe.cons (.refl _) EnvLe.nil))))))))))))) ?_
              try simp only [RC]
              exact hN31 ((IntKind.wrap .u64 ((IntKind.wrap .u64 (2 * (IntKind.wrap .u64 ((IntKind.wrap .u64 (1 * 2 ^ (min (Int.toNat (IntKind.wrap .u64 (IntKind.wrap .i64 (r4.1 - 1)))) 64))) - 1)))) + 1)), _) hq
      · refine wp_region_i (by rfl) ?_
        simp only [go_sem, ↓evs_eq, Nat.reduceAdd, ↓reduceIte, Nat.reduceEqDiff, Nat.reduceBEq, Nat.reduceBNe, Nat.reduceLT, Int.reduceToNat, Int.reduceEq, Int.reduceLT, Int.reduceLE, reduceCtorEq, Nat.reduceMul, Nat.reduceLeDiff, S_api_Node.enc_eq]
        by_cases hc21 : r4.1 = 0
        · replace hq := (R.post_if hq).1 hc21
          simp only [decide_eq_true hc21, go_sem, ↓evs_eq, Nat.reduceAdd, ↓reduceIte, Nat.reduceEqDiff, Nat.reduceBEq, Nat.reduceBNe, Nat.reduceLT, Int.reduceToNat, Int.reduceEq, Int.reduceLT, Int.reduceLE, reduceCtorEq, Nat.reduceMul, Nat.reduceLeDiff, S_api_Node.enc_eq]
          exact hN20 (r8.2.1, _, true) hq
        · replace hq := (R.post_if hq).2 hc21
          simp only [decide_eq_false hc21, go_sem, ↓evs_eq, Nat.reduceAdd, ↓reduceIte, Nat.reduceEqDiff, Nat.reduceBEq, Nat.reduceBNe, Nat.reduceLT, Int.reduceToNat, Int.reduceEq, Int.reduceLT, Int.reduceLE, reduceCtorEq, Nat.reduceMul, Nat.reduceLeDiff, S_api_Node.enc_eq]
          by_cases hc22 : r8.2.2 = true
          · replace hq := (R.post_if hq).1 hc22
            simp only [hc22, go_sem, ↓evs_eq, Nat.reduceAdd, ↓reduceIte, Nat.reduceEqDiff, Nat.reduceBEq, Nat.reduceBNe, Nat.reduceLT, Int.reduceToNat, Int.reduceEq, Int.reduceLT, Int.reduceLE, reduceCtorEq, Nat.reduceMul, Nat.reduceLeDiff, S_api_Node.enc_eq]
            by_cases hc23 : r8.2.1 = true
            · replace hq := (R.post_if hq).1 hc23
              simp only [hc23, go_sem, ↓evs_eq, Nat.reduceAdd, ↓reduceIte, Nat.reduceEqDiff, Nat.reduceBEq, Nat.reduceBNe, Nat.reduceLT, Int.reduceToNat, Int.reduceEq, Int.reduceLT, Int.reduceLE, reduceCtorEq, Nat.reduceMul, Nat.reduceLeDiff, S_api_Node.enc_eq]
              exact hN20 (true, _, (!r4.2)) hq
            · replace hq := (R.post_if hq).2 hc23
              replace hc23 := eq_false_of_ne_true hc23
              simp only [hc23, go_sem, ↓evs_eq, Nat.reduceAdd, ↓reduceIte, Nat.reduceEqDiff, Nat.reduceBEq, Nat.reduceBNe, Nat.reduceLT, Int.reduceToNat, Int.reduceEq, Int.reduceLT, Int.reduceLE, reduceCtorEq, Nat.reduceMul, Nat.reduceLeDiff, S_api_Node.enc_eq]
              exact hN20 (false, _, false) hq
          · replace hq := (R.post_if hq).2 hc22
            replace hc22 := eq_false_of_ne_true hc22
            simp only [hc22, go_sem, ↓evs_eq, Nat.reduceAdd, ↓reduceIte, Nat.reduceEqDiff, Nat.reduceBEq, Nat.reduceBNe, Nat.reduceLT, Int.reduceToNat, Int.reduceEq, Int.reduceLT, Int.reduceLE, reduceCtorEq, Nat.reduceMul, Nat.reduceLeDiff, S_api_Node.enc_eq]
            exact hN20 (r8.2.1, _, true) hq
    · simp only [RC, scopeQ, retQ, ↓reduceIte, Bool.false_eq_true]
      exact (hX _ hv).2
  · simp only [RC, scopeQ, retQ, ↓reduceIte, Bool.false_eq_true]
    exact (hX _ hv).2

def glossaryref13_Default (x0 : Int) (x1 : S_api_Node) : R ((List UInt8) × Bool) :=
  (glossaryref13_Bits x0).bind fun r4 => (if (0 : Int) < r4.1 then (R.ok (decide (x1.Kind = 20))) else (R.ok false)).bind fun x15m29 => if x15m29 = true then ((glossaryref13_Within x0 x1.Text).bind fun r38 => if r38.2 = true then (R.ok (x1.Text, true)) else (R.ok ([], false))) else ((if x0 = 8 then (if x1.Kind = 21 then (if x1.Text = ([116, 114, 117, 101]) then (R.ok true) else (R.ok (decide (x1.Text = ([102, 97, 108, 115, 101]))))) else (R.ok false)) else (R.ok false)).bind fun x34m45 => if x34m45 = true then (R.ok (x1.Text, true)) else ((if x0 = 9 then (R.ok (decide (x1.Kind = 22))) else (if x0 = 12 then (R.ok (decide (x1.Kind = 22))) else (R.ok false))).bind fun x54m55 => if x54m55 = true then (R.ok (x1.Text, true)) else ((if x0 = 0 then (R.ok (decide (x1.Kind = 21))) else (R.ok false)).bind fun x68m63 => if x68m63 = true then (R.ok (x1.Text, true)) else (R.ok ([], false)))))
theorem glossaryref13_Default_call {h : H} {x0 : Int} {x1 : S_api_Node} {Q : Out → H → Prop} {KK : ((List UInt8) × Bool) → Prop} {X : V → Prop} (hq : (glossaryref13_Default x0 x1).post KK X) (hK : ∀ r, KK r → Q (.ret (.tup [.str r.1, .bool r.2])) h) (hX : ∀ v, X v → V.Cl 0 v ∧ Q (.panic v) h) : CA qprim 12 [.int .i64 x0, .agg [.int .i64 x1.Kind, .str x1.Text, .int .i64 x1.N, .int .i64 x1.M, .int .i64 x1.A, .int .i64 x1.At, .str x1.Doc, .sl 8 (List.map S_api_Node.enc x1.Kids)]] h Q := by
  refine acalln hp Tryz.func12 rfl (by kernel_rfl) (n := 78) rfl (rs := [.tmp 4, .tmp 5]) rfl [0, 1, 3, 4, 5, 6, 9, 15, 31, 34, 54, 68] [] true (by simp) ?_
  unfold glossaryref13_Default at hq
  simp only [initEnv, List.map_cons, List.map_nil, List.getD_cons_zero, List.getD_cons_succ, List.getD_nil, V.demote]
  rw [wp_seq]
  refine wp_region_i (by rfl) ?_
  simp only [go_sem, ↓evs_eq, Nat.reduceAdd, ↓reduceIte, Nat.reduceEqDiff, Nat.reduceBEq, Nat.reduceBNe, Nat.reduceLT, Int.reduceToNat, Int.reduceEq, Int.reduceLT, Int.reduceLE, reduceCtorEq, Nat.reduceMul, Nat.reduceLeDiff, S_api_Node.enc_eq]
  rw [wp_seq]
  refine wp_region_i (by rfl) ?_
  simp only [go_sem, ↓evs_eq, Nat.reduceAdd, ↓reduceIte, Nat.reduceEqDiff, Nat.reduceBEq, Nat.reduceBNe, Nat.reduceLT, Int.reduceToNat, Int.reduceEq, Int.reduceLT, Int.reduceLE, reduceCtorEq, Nat.reduceMul, Nat.reduceLeDiff, S_api_Node.enc_eq]
  obtain ⟨K69, hK70, hq⟩ := R.post_cut hq
  refine glossaryref13_Bits_call (x0 := x0) hq (fun r4 hq => ?_) (fun v hv => ⟨(hX v hv).1, ?_⟩)
  · replace hq := hK70 _ hq
    simp only [go_sem, ↓evs_eq, Nat.reduceAdd, ↓reduceIte, Nat.reduceEqDiff, Nat.reduceBEq, Nat.reduceBNe, Nat.reduceLT, Int.reduceToNat, Int.reduceEq, Int.reduceLT, Int.reduceLE, reduceCtorEq, Nat.reduceMul, Nat.reduceLeDiff, S_api_Node.enc_eq]
    rw [wp_seq]
    rw [wp_block]
    obtain ⟨K30, hK31, hq⟩ := R.post_cut hq
    refine seq_gen (acall_mono hp) (σ := Bool) (fun s => [(0, .int .i64 x0), (1, .agg [.int .i64 x1.Kind, .str x1.Text, .int .i64 x1.N, .int .i64 x1.M, .int .i64 x1.A, .int .i64 x1.At, .str x1.Doc, .sl 8 (List.map S_api_Node.enc x1.Kids)]), (3, .ref h.length 0), (4, .str []), (5, .bool false), (6, .int .i64 r4.1), (9, .top), (15, .bool s), (31, .top), (34, .top), (54, .top), (68, .top)]) (fun s => h ++ [.cells 28 [.int .i64 x1.Kind, .str x1.Text, .int .i64 x1.N, .int .i64 x1.M, .int .i64 x1.A, .int .i64 x1.At, .str x1.Doc, .sl 8 (List.map S_api_Node.enc x1.Kids)]]) (fun s => K30 s) (fun x15m29 hq => ?_) (fun N hN32 => ?_)
    · replace hq := hK31 _ hq
      try dsimp only at hq ⊢
      rw [wp_cond]
      simp only [go_sem, ↓evs_eq, Nat.reduceAdd, ↓reduceIte, Nat.reduceEqDiff, Nat.reduceBEq, Nat.reduceBNe, Nat.reduceLT, Int.reduceToNat, Int.reduceEq, Int.reduceLT, Int.reduceLE, reduceCtorEq, Nat.reduceMul, Nat.reduceLeDiff, S_api_Node.enc_eq]
      by_cases hc34 : x15m29 = true
      · replace hq := (R.post_if hq).1 hc34
        refine condK_t (congrArg V.bool (hc34)) ?_
        rw [wp_seq]
        refine wp_region_i (by rfl) ?_
        simp only [go_sem, ↓evs_eq, Nat.reduceAdd, ↓reduceIte, Nat.reduceEqDiff, Nat.reduceBEq, Nat.reduceBNe, Nat.reduceLT, Int.reduceToNat, Int.reduceEq, Int.reduceLT, Int.reduceLE, reduceCtorEq, Nat.reduceMul, Nat.reduceLeDiff, S_api_Node.enc_eq]
        obtain ⟨K40, hK41, hq⟩ := R.post_cut hq
        refine glossaryref13_Within_call (x0 := x0) (x1 := x1.Text) hq (fun r38 hq => ?_) (fun v hv => ⟨(hX v hv).1, ?_⟩)
        · replace hq := hK41 _ hq
          simp only [go_sem, ↓evs_eq, Nat.reduceAdd, ↓reduceIte, Nat.reduceEqDiff, Nat.reduceBEq, Nat.reduceBNe, Nat.reduceLT, Int.reduceToNat, Int.reduceEq, Int.reduceLT, Int.reduceLE, reduceCtorEq, Nat.reduceMul, Nat.reduceLeDiff, S_api_Node.enc_eq]
          rw [wp_seq]
          rw [wp_seq]
          refine wp_region_i (by rfl) ?_
          simp only [go_sem, ↓evs_eq, Nat.reduceAdd, ↓reduceIte, Nat.reduceEqDiff, Nat.reduceBEq, Nat.reduceBNe, Nat.reduceLT, Int.reduceToNat, Int.reduceEq, Int.reduceLT, Int.reduceLE, reduceCtorEq, Nat.reduceMul, Nat.reduceLeDiff, S_api_Node.enc_eq]
          rw [wp_cond]
          simp only [go_sem, ↓evs_eq, Nat.reduceAdd, ↓reduceIte, Nat.reduceEqDiff, Nat.reduceBEq, Nat.reduceBNe, Nat.reduceLT, Int.reduceToNat, Int.reduceEq, Int.reduceLT, Int.reduceLE, reduceCtorEq, Nat.reduceMul, Nat.reduceLeDiff, S_api_Node.enc_eq]
          by_cases hc39 : r38.2 = true
          · replace hq := (R.post_if hq).1 hc39
            refine condK_f (congrArg (fun b => V.bool (!b)) (hc39)) ?_
            try simp only [wp_skip, RC]
            refine Wk.same ?_
            try simp only [RC]
            rw [wp_seq]
            refine wp_region_i (by rfl) ?_
            simp only [go_sem, ↓evs_eq, Nat.reduceAdd, ↓reduceIte, Nat.reduceEqDiff, Nat.reduceBEq, Nat.reduceBNe, Nat.reduceLT, Int.reduceToNat, Int.reduceEq, Int.reduceLT, Int.reduceLE, reduceCtorEq, Nat.reduceMul, Nat.reduceLeDiff, S_api_Node.enc_eq]
            rw [wp_ret]
            simp only [retQ, results, resultAll, resultOne, Nat.zero_add, scopeQ, go_sem, ↓evs_eq, Nat.reduceAdd, ↓reduceIte, Nat.reduceEqDiff, Nat.reduceBEq, Nat.reduceBNe, Nat.reduceLT, Int.reduceToNat, Int.reduceEq, Int.reduceLT, Int.reduceLE, reduceCtorEq, Nat.reduceMul, Nat.reduceLeDiff, S_api_Node.enc_eq]
            refine ⟨_, (.refl _), ?_⟩
            refine leave_ok rfl (.tup _ (cl_cons (.str _) (cl_cons (.bool _) cl_nil))) ?_
            exact hK _ hq
          · replace hq := (R.post_if hq).2 hc39
            replace hc39 := eq_false_of_ne_true hc39
            refine condK_t (congrArg (fun b => V.bool (!b)) (hc39)) ?_
            rw [wp_seq]
            refine wp_region_i (by rfl) ?_
            simp only [go_sem, ↓evs_eq, Nat.reduceAdd, ↓reduceIte, Nat.reduceEqDiff, Nat.reduceBEq, Nat.reduceBNe, Nat.reduceLT, Int.reduceToNat, Int.reduceEq, Int.reduceLT, Int.reduceLE, reduceCtorEq, Nat.reduceMul, Nat.reduceLeDiff, S_api_Node.enc_eq]
            rw [wp_ret]
            simp only [retQ, results, resultAll, resultOne, Nat.zero_add, scopeQ, go_sem, ↓evs_eq, Nat.reduceAdd, ↓reduceIte, Nat.reduceEqDiff, Nat.reduceBEq, Nat.reduceBNe, Nat.reduceLT, Int.reduceToNat, Int.reduceEq, Int.reduceLT, Int.reduceLE, reduceCtorEq, Nat.reduceMul, Nat.reduceLeDiff, S_api_Node.enc_eq]
            refine ⟨_, (.refl _), ?_⟩
            refine leave_ok rfl (.tup _ (cl_cons (.str _) (cl_cons (.bool _) cl_nil))) ?_
            exact hK _ hq
        · simp only [RC, scopeQ, retQ, ↓reduceIte, Bool.false_eq_true]
          exact leaveP_ok ((hX _ hv).1.mono (Nat.zero_le _)) (hX _ hv).2
      · replace hq := (R.post_if hq).2 hc34
        replace hc34 := eq_false_of_ne_true hc34
        refine condK_f (congrArg V.bool (hc34)) ?_
        obtain ⟨K46, hK47, hq⟩ := R.post_cut hq
        refine seq_gen (acall_mono hp) (σ := Bool) (fun s => [(0, .int .i64 x0), (1, .agg [.int .i64 x1.Kind, .str x1.Text, .int .i64 x1.N, .int .i64 x1.M, .int .i64 x1.A, .int .i64 x1.At, .str x1.Doc, .sl 8 (List.map S_api_Node.enc x1.Kids)]), (3, .ref h.length 0), (4, .str []), (5, .bool false), (6, .int .i64 r4.1), (9, .top), (15, .bool x15m29), (31, .top), (34, .bool s), (54, .top), (68, .top)]) (fun s => h ++ [.cells 28 [.int .i64 x1.Kind, .str x1.Text, .int .i64 x1.N, .int .i64 x1.M, .int .i64 x1.A, .int .i64 x1.At, .str x1.Doc, .sl 8 (List.map S_api_Node.enc x1.Kids)]]) (fun s => K46 s) (fun x34m45 hq => ?_) (fun N hN48 => ?_)
        · replace hq := hK47 _ hq
          try dsimp only at hq ⊢
          rw [wp_cond]
          simp only [go_sem, ↓evs_eq, Nat.reduceAdd, ↓reduceIte, Nat.reduceEqDiff, Nat.reduceBEq, Nat.reduceBNe, Nat.reduceLT, Int.reduceToNat, Int.reduceEq, Int.reduceLT, Int.reduceLE, reduceCtorEq, Nat.reduceMul, Nat.reduceLeDiff, S_api_Node.enc_eq]
          by_cases hc52 : x34m45 = true
          · replace hq := (R.post_if hq).1 hc52
            refine condK_t (congrArg V.bool (hc52)) ?_
            rw [wp_seq]
            refine wp_region_i (by rfl) ?_
            simp only [go_sem, ↓evs_eq, Nat.reduceAdd, ↓reduceIte, Nat.reduceEqDiff, Nat.reduceBEq, Nat.reduceBNe, Nat.reduceLT, Int.reduceToNat, Int.reduceEq, Int.reduceLT, Int.reduceLE, reduceCtorEq, Nat.reduceMul, Nat.reduceLeDiff, S_api_Node.enc_eq]
            rw [wp_ret]
            simp only [retQ, results, resultAll, resultOne, Nat.zero_add, scopeQ, go_sem, ↓evs_eq, Nat.reduceAdd, ↓reduceIte, Nat.reduceEqDiff, Nat.reduceBEq, Nat.reduceBNe, Nat.reduceLT, Int.reduceToNat, Int.reduceEq, Int.reduceLT, Int.reduceLE, reduceCtorEq, Nat.reduceMul, Nat.reduceLeDiff, S_api_Node.enc_eq]
            refine ⟨_, (.refl _), ?_⟩
            refine leave_ok rfl (.tup _ (cl_cons (.str _) (cl_cons (.bool _) cl_nil))) ?_
            exact hK _ hq
          · replace hq := (R.post_if hq).2 hc52
            replace hc52 := eq_false_of_ne_true hc52
            refine condK_f (congrArg V.bool (hc52)) ?_
            obtain ⟨K56, hK57, hq⟩ := R.post_cut hq
            refine seq_gen (acall_mono hp) (σ := Bool) (fun s => [(0, .int .i64 x0), (1, .agg [.int .i64 x1.Kind, .str x1.Text, .int .i64 x1.N, .int .i64 x1.M, .int .i64 x1.A, .int .i64 x1.At, .str x1.Doc, .sl 8 (List.map S_api_Node.enc x1.Kids)]), (3, .ref h.length 0), (4, .str []), (5, .bool false), (6, .int .i64 r4.1), (9, .top), (15, .bool x15m29), (31, .top), (34, .bool x34m45), (54, .bool s), (68, .top)]) (fun s => h ++ [.cells 28 [.int .i64 x1.Kind, .str x1.Text, .int .i64 x1.N, .int .i64 x1.M, .int .i64 x1.A, .int .i64 x1.At, .str x1.Doc, .sl 8 (List.map S_api_Node.enc x1.Kids)]]) (fun s => K56 s) (fun x54m55 hq => ?_) (fun N hN58 => ?_)
            · replace hq := hK57 _ hq
              try dsimp only at hq ⊢
              rw [wp_cond]
              simp only [go_sem, ↓evs_eq, Nat.reduceAdd, ↓reduceIte, Nat.reduceEqDiff, Nat.reduceBEq, Nat.reduceBNe, Nat.reduceLT, Int.reduceToNat, Int.reduceEq, Int.reduceLT, Int.reduceLE, reduceCtorEq, Nat.reduceMul, Nat.reduceLeDiff, S_api_Node.enc_eq]
              by_cases hc61 : x54m55 = true
              · replace hq := (R.post_if hq).1 hc61
                refine condK_t (congrArg V.bool (hc61)) ?_
                rw [wp_seq]
                refine wp_region_i (by rfl) ?_
                simp only [go_sem, ↓evs_eq, Nat.reduceAdd, ↓reduceIte, Nat.reduceEqDiff, Nat.reduceBEq, Nat.reduceBNe, Nat.reduceLT, Int.reduceToNat, Int.reduceEq, Int.reduceLT, Int.reduceLE, reduceCtorEq, Nat.reduceMul, Nat.reduceLeDiff, S_api_Node.enc_eq]
                rw [wp_ret]
                simp only [retQ, results, resultAll, resultOne, Nat.zero_add, scopeQ, go_sem, ↓evs_eq, Nat.reduceAdd, ↓reduceIte, Nat.reduceEqDiff, Nat.reduceBEq, Nat.reduceBNe, Nat.reduceLT, Int.reduceToNat, Int.reduceEq, Int.reduceLT, Int.reduceLE, reduceCtorEq, Nat.reduceMul, Nat.reduceLeDiff, S_api_Node.enc_eq]
                refine ⟨_, (.refl _), ?_⟩
                refine leave_ok rfl (.tup _ (cl_cons (.str _) (cl_cons (.bool _) cl_nil))) ?_
                exact hK _ hq
              · replace hq := (R.post_if hq).2 hc61
                replace hc61 := eq_false_of_ne_true hc61
                refine condK_f (congrArg V.bool (hc61)) ?_
                obtain ⟨K64, hK65, hq⟩ := R.post_cut hq
                refine seq_gen (acall_mono hp) (σ := Bool) (fun s => [(0, .int .i64 x0), (1, .agg [.int .i64 x1.Kind, .str x1.Text, .int .i64 x1.N, .int .i64 x1.M, .int .i64 x1.A, .int .i64 x1.At, .str x1.Doc, .sl 8 (List.map S_api_Node.enc x1.Kids)]), (3, .ref h.length 0), (4, .str []), (5, .bool false), (6, .int .i64 r4.1), (9, .top), (15, .bool x15m29), (31, .top), (34, .bool x34m45), (54, .bool x54m55), (68, .bool s)]) (fun s => h ++ [.cells 28 [.int .i64 x1.Kind, .str x1.Text, .int .i64 x1.N, .int .i64 x1.M, .int .i64 x1.A, .int .i64 x1.At, .str x1.Doc, .sl 8 (List.map S_api_Node.enc x1.Kids)]]) (fun s => K64 s) (fun x68m63 hq => ?_) (fun N hN66 => ?_)
                · replace hq := hK65 _ hq
                  try dsimp only at hq ⊢
                  rw [wp_cond]
                  simp only [go_sem, ↓evs_eq, Nat.reduceAdd, ↓reduceIte, Nat.reduceEqDiff, Nat.reduceBEq, Nat.reduceBNe, Nat.reduceLT, Int.reduceToNat, Int.reduceEq, Int.reduceLT, Int.reduceLE, reduceCtorEq, Nat.reduceMul, Nat.reduceLeDiff, S_api_Node.enc_eq]
                  by_cases hc68 : x68m63 = true
                  · replace hq := (R.post_if hq).1 hc68
                    refine condK_t (congrArg V.bool (hc68)) ?_
                    rw [wp_seq]
                    refine wp_region_i (by rfl) ?_
                    simp only [go_sem, ↓evs_eq, Nat.reduceAdd, ↓reduceIte, Nat.reduceEqDiff, Nat.reduceBEq, Nat.reduceBNe, Nat.reduceLT, Int.reduceToNat, Int.reduceEq, Int.reduceLT, Int.reduceLE, reduceCtorEq, Nat.reduceMul, Nat.reduceLeDiff, S_api_Node.enc_eq]
                    rw [wp_ret]
                    simp only [retQ, results, resultAll, resultOne, Nat.zero_add, scopeQ, go_sem, ↓evs_eq, Nat.reduceAdd, ↓reduceIte, Nat.reduceEqDiff, Nat.reduceBEq, Nat.reduceBNe, Nat.reduceLT, Int.reduceToNat, Int.reduceEq, Int.reduceLT, Int.reduceLE, reduceCtorEq, Nat.reduceMul, Nat.reduceLeDiff, S_api_Node.enc_eq]
                    refine ⟨_, (.refl _), ?_⟩
                    refine leave_ok rfl (.tup _ (cl_cons (.str _) (cl_cons (.bool _) cl_nil))) ?_
                    exact hK _ hq
                  · replace hq := (R.post_if hq).2 hc68
                    replace hc68 := eq_false_of_ne_true hc68
                    refine condK_f (congrArg V.bool (hc68)) ?_
                    try simp only [wp_skip, RC]
                    refine Wk.same ?_
                    try simp only [RC]
                    refine Wk.same ?_
                    try simp only [RC]
                    refine Wk.same ?_
                    try simp only [RC]
                    refine Wk.same ?_
                    try simp only [RC]
                    refine Wk.same ?_
                    try simp only [RC]
                    rw [wp_seq]
                    refine wp_region_i (by rfl) ?_
                    simp only [go_sem, ↓evs_eq, Nat.reduceAdd, ↓reduceIte, Nat.reduceEqDiff, Nat.reduceBEq, Nat.reduceBNe, Nat.reduceLT, Int.reduceToNat, Int.reduceEq, Int.reduceLT, Int.reduceLE, reduceCtorEq, Nat.reduceMul, Nat.reduceLeDiff, S_api_Node.enc_eq]
                    rw [wp_ret]
                    simp only [retQ, results, resultAll, resultOne, Nat.zero_add, scopeQ, go_sem, ↓evs_eq, Nat.reduceAdd, ↓reduceIte, Nat.reduceEqDiff, Nat.reduceBEq, Nat.reduceBNe, Nat.reduceLT, Int.reduceToNat, Int.reduceEq, Int.reduceLT, Int.reduceLE, reduceCtorEq, Nat.reduceMul, Nat.reduceLeDiff, S_api_Node.enc_eq]
                    refine ⟨_, (.refl _), ?_⟩
                    refine leave_ok rfl (.tup _ (cl_cons (.str _) (cl_cons (.bool _) cl_nil))) ?_
                    exact hK _ hq
                · refine wp_region_i (by rfl) ?_
                  simp only [go_sem, ↓evs_eq, Nat.reduceAdd, ↓reduceIte, Nat.reduceEqDiff, Nat.reduceBEq, Nat.reduceBNe, Nat.reduceLT, Int.reduceToNat, Int.reduceEq, Int.reduceLT, Int.reduceLE, reduceCtorEq, Nat.reduceMul, Nat.reduceLeDiff, S_api_Node.enc_eq]
                  by_cases hc67 : x0 = 0
                  · replace hq := (R.post_if hq).1 hc67
                    simp only [decide_eq_true hc67, go_sem, ↓evs_eq, Nat.reduceAdd, ↓reduceIte, Nat.reduceEqDiff, Nat.reduceBEq, Nat.reduceBNe, Nat.reduceLT, Int.reduceToNat, Int.reduceEq, Int.reduceLT, Int.reduceLE, reduceCtorEq, Nat.reduceMul, Nat.reduceLeDiff, S_api_Node.enc_eq]
                    exact hN66 (decide (x1.Kind = 21)) hq
                  · replace hq := (R.post_if hq).2 hc67
                    simp only [decide_eq_false hc67, go_sem, ↓evs_eq, Nat.reduceAdd, ↓reduceIte, Nat.reduceEqDiff, Nat.reduceBEq, Nat.reduceBNe, Nat.reduceLT, Int.reduceToNat, Int.reduceEq, Int.reduceLT, Int.reduceLE, reduceCtorEq, Nat.reduceMul, Nat.reduceLeDiff, S_api_Node.enc_eq]
                    exact hN66 false hq
            · refine wp_region_i (by rfl) ?_
              simp only [go_sem, ↓evs_eq, Nat.reduceAdd, ↓reduceIte, Nat.reduceEqDiff, Nat.reduceBEq, Nat.reduceBNe, Nat.reduceLT, Int.reduceToNat, Int.reduceEq, Int.reduceLT, Int.reduceLE, reduceCtorEq, Nat.reduceMul, Nat.reduceLeDiff, S_api_Node.enc_eq]
              by_cases hc59 : x0 = 9
              · replace hq := (R.post_if hq).1 hc59
                simp only [decide_eq_true hc59, go_sem, ↓evs_eq, Nat.reduceAdd, ↓reduceIte, Nat.reduceEqDiff, Nat.reduceBEq, Nat.reduceBNe, Nat.reduceLT, Int.reduceToNat, Int.reduceEq, Int.reduceLT, Int.reduceLE, reduceCtorEq, Nat.reduceMul, Nat.reduceLeDiff, S_api_Node.enc_eq]
                exact hN58 (decide (x1.Kind = 22)) hq
              · replace hq := (R.post_if hq).2 hc59
                simp only [decide_eq_false hc59, go_sem, ↓evs_eq, Nat.reduceAdd, ↓reduceIte, Nat.reduceEqDiff, Nat.reduceBEq, Nat.reduceBNe, Nat.reduceLT, Int.reduceToNat, Int.reduceEq, Int.reduceLT, Int.reduceLE, reduceCtorEq, Nat.reduceMul, Nat.reduceLeDiff, S_api_Node.enc_eq]
                by_cases hc60 : x0 = 12
                · replace hq := (R.post_if hq).1 hc60
                  simp only [decide_eq_true hc60, go_sem, ↓evs_eq, Nat.reduceAdd, ↓reduceIte, Nat.reduceEqDiff, Nat.reduceBEq, Nat.reduceBNe, Nat.reduceLT, Int.reduceToNat, Int.reduceEq, Int.reduceLT, Int.reduceLE, reduceCtorEq, Nat.reduceMul, Nat.reduceLeDiff, S_api_Node.enc_eq]
                  exact hN58 (decide (x1.Kind = 22)) hq
                · replace hq := (R.post_if hq).2 hc60
                  simp only [decide_eq_false hc60, go_sem, ↓evs_eq, Nat.reduceAdd, ↓reduceIte, Nat.reduceEqDiff, Nat.reduceBEq, Nat.reduceBNe, Nat.reduceLT, Int.reduceToNat, Int.reduceEq, Int.reduceLT, Int.reduceLE, reduceCtorEq, Nat.reduceMul, Nat.reduceLeDiff, S_api_Node.enc_eq]
                  exact hN58 false hq
        · refine wp_region_i (by rfl) ?_
          simp only [go_sem, ↓evs_eq, Nat.reduceAdd, ↓reduceIte, Nat.reduceEqDiff, Nat.reduceBEq, Nat.reduceBNe, Nat.reduceLT, Int.reduceToNat, Int.reduceEq, Int.reduceLT, Int.reduceLE, reduceCtorEq, Nat.reduceMul, Nat.reduceLeDiff, S_api_Node.enc_eq]
          by_cases hc49 : x0 = 8
          · replace hq := (R.post_if hq).1 hc49
            simp only [decide_eq_true hc49, go_sem, ↓evs_eq, Nat.reduceAdd, ↓reduceIte, Nat.reduceEqDiff, Nat.reduceBEq, Nat.reduceBNe, Nat.reduceLT, Int.reduceToNat, Int.reduceEq, Int.reduceLT, Int.reduceLE, reduceCtorEq, Nat.reduceMul, Nat.reduceLeDiff, S_api_Node.enc_eq]
            by_cases hc50 : x1.Kind = 21
            · replace hq := (R.post_if hq).1 hc50
              simp only [decide_eq_true hc50, go_sem, ↓evs_eq, Nat.reduceAdd, ↓reduceIte, Nat.reduceEqDiff, Nat.reduceBEq, Nat.reduceBNe, Nat.reduceLT, Int.reduceToNat, Int.reduceEq, Int.reduceLT, Int.reduceLE, reduceCtorEq, Nat.reduceMul, Nat.reduceLeDiff, S_api_Node.enc_eq]
              by_cases hc51 : x1.Text = ([116, 114, 117, 101])
              · replace hq := (R.post_if hq).1 hc51
                simp only [decide_eq_true hc51, go_sem, ↓evs_eq, Nat.reduceAdd, ↓reduceIte, Nat.reduceEqDiff, Nat.reduceBEq, Nat.reduceBNe, Nat.reduceLT, Int.reduceToNat, Int.reduceEq, Int.reduceLT, Int.reduceLE, reduceCtorEq, Nat.reduceMul, Nat.reduceLeDiff, S_api_Node.enc_eq]
                exact hN48 true hq
              · replace hq := (R.post_if hq).2 hc51
                simp only [decide_eq_false hc51, go_sem, ↓evs_eq, Nat.reduceAdd, ↓reduceIte, Nat.reduceEqDiff, Nat.reduceBEq, Nat.reduceBNe, Nat.reduceLT, Int.reduceToNat, Int.reduceEq, Int.reduceLT, Int.reduceLE, reduceCtorEq, Nat.reduceMul, Nat.reduceLeDiff, S_api_Node.enc_eq]
                exact hN48 (decide (x1.Text = ([102, 97, 108, 115, 101]))) hq
            · replace hq := (R.post_if hq).2 hc50
              simp only [decide_eq_false hc50, go_sem, ↓evs_eq, Nat.reduceAdd, ↓reduceIte, Nat.reduceEqDiff, Nat.reduceBEq, Nat.reduceBNe, Nat.reduceLT, Int.reduceToNat, Int.reduceEq, Int.reduceLT, Int.reduceLE, reduceCtorEq, Nat.reduceMul, Nat.reduceLeDiff, S_api_Node.enc_eq]
              exact hN48 false hq
          · replace hq := (R.post_if hq).2 hc49
            simp only [decide_eq_false hc49, go_sem, ↓evs_eq, Nat.reduceAdd, ↓reduceIte, Nat.reduceEqDiff, Nat.reduceBEq, Nat.reduceBNe, Nat.reduceLT, Int.reduceToNat, Int.reduceEq, Int.reduceLT, Int.reduceLE, reduceCtorEq, Nat.reduceMul, Nat.reduceLeDiff, S_api_Node.enc_eq]
            exact hN48 false hq
    · refine wp_region_i (by rfl) ?_
      simp only [go_sem, ↓evs_eq, Nat.reduceAdd, ↓reduceIte, Nat.reduceEqDiff, Nat.reduceBEq, Nat.reduceBNe, Nat.reduceLT, Int.reduceToNat, Int.reduceEq, Int.reduceLT, Int.reduceLE, reduceCtorEq, Nat.reduceMul, Nat.reduceLeDiff, S_api_Node.enc_eq]
      by_cases hc33 : (0 : Int) < r4.1
      · replace hq := (R.post_if hq).1 hc33
        simp only [decide_eq_true hc33, go_sem, ↓evs_eq, Nat.reduceAdd, ↓reduceIte, Nat.reduceEqDiff, Nat.reduceBEq, Nat.reduceBNe, Nat.reduceLT, Int.reduceToNat, Int.reduceEq, Int.reduceLT, Int.reduceLE, reduceCtorEq, Nat.reduceMul, Nat.reduceLeDiff, S_api_Node.enc_eq]
        exact hN32 (decide (x1.Kind = 20)) hq
      · replace hq := (R.post_if hq).2 hc33
        simp only [decide_eq_false hc33, go_sem, ↓evs_eq, Nat.reduceAdd, ↓reduceIte, Nat.reduceEqDiff, Nat.reduceBEq, Nat.reduceBNe, Nat.reduceLT, Int.reduceToNat, Int.reduceEq, Int.reduceLT, Int.reduceLE, reduceCtorEq, Nat.reduceMul, Nat.reduceLeDiff, S_api_Node.enc_eq]
        exact hN32 false hq
  · simp only [RC, scopeQ, retQ, ↓reduceIte, Bool.false_eq_true]
    exact leaveP_ok ((hX _ hv).1.mono (Nat.zero_le _)) (hX _ hv).2

def glossarylaw13_LowerDefaults (x0 : Int) (x1 : S_api_Node) : R (Bool) :=
  (awakeX).bind fun r11 => if r11 = true then ((glossarylaw07_Few x1).bind fun r23 => if r23 = true then ((lower_Default x0 x1).bind fun r28 => (glossaryref13_Default x0 x1).bind fun r32 => (if r28.1 = r32.1 then (R.ok (r28.2 == r32.2)) else (R.ok false)).bind fun x4m34 => R.ok x4m34) else (R.ok true)) else (R.ok false)
theorem glossarylaw13_LowerDefaults_call {h : H} {x0 : Int} {x1 : S_api_Node} {Q : Out → H → Prop} {KK : (Bool) → Prop} {X : V → Prop} (hq : (glossarylaw13_LowerDefaults x0 x1).post KK X) (hK : ∀ r, KK r → Q (.ret (.bool r)) h) (hX : ∀ v, X v → V.Cl 0 v ∧ Q (.panic v) h) : CA qprim 4 [.int .i64 x0, .agg [.int .i64 x1.Kind, .str x1.Text, .int .i64 x1.N, .int .i64 x1.M, .int .i64 x1.A, .int .i64 x1.At, .str x1.Doc, .sl 8 (List.map S_api_Node.enc x1.Kids)]] h Q := by
  refine acalln hp Tryz.func4 rfl (by kernel_rfl) (n := 34) rfl (rs := [.tmp 4]) rfl [0, 1, 3, 4, 5, 6, 7, 8, 10, 13] [] true (by simp) ?_
  unfold glossarylaw13_LowerDefaults at hq
  simp only [initEnv, List.map_cons, List.map_nil, List.getD_cons_zero, List.getD_cons_succ, List.getD_nil, V.demote]
  rw [wp_seq]
  refine wp_region_i (by rfl) ?_
  simp only [go_sem, ↓evs_eq, Nat.reduceAdd, ↓reduceIte, Nat.reduceEqDiff, Nat.reduceBEq, Nat.reduceBNe, Nat.reduceLT, Int.reduceToNat, Int.reduceEq, Int.reduceLT, Int.reduceLE, reduceCtorEq, Nat.reduceMul, Nat.reduceLeDiff, S_api_Node.enc_eq]
  rw [wp_seq]
  rw [wp_seq]
  refine wp_region_i (by rfl) ?_
  simp only [go_sem, ↓evs_eq, Nat.reduceAdd, ↓reduceIte, Nat.reduceEqDiff, Nat.reduceBEq, Nat.reduceBNe, Nat.reduceLT, Int.reduceToNat, Int.reduceEq, Int.reduceLT, Int.reduceLE, reduceCtorEq, Nat.reduceMul, Nat.reduceLeDiff, S_api_Node.enc_eq]
  obtain ⟨K45, hK46, hq⟩ := R.post_cut hq
  refine awakeX_call hq (fun r11 hq => ?_) (fun v hv => ⟨(hX v hv).1, ?_⟩)
  · replace hq := hK46 _ hq
    simp only [go_sem, ↓evs_eq, Nat.reduceAdd, ↓reduceIte, Nat.reduceEqDiff, Nat.reduceBEq, Nat.reduceBNe, Nat.reduceLT, Int.reduceToNat, Int.reduceEq, Int.reduceLT, Int.reduceLE, reduceCtorEq, Nat.reduceMul, Nat.reduceLeDiff, S_api_Node.enc_eq]
    rw [wp_cond]
    simp only [go_sem, ↓evs_eq, Nat.reduceAdd, ↓reduceIte, Nat.reduceEqDiff, Nat.reduceBEq, Nat.reduceBNe, Nat.reduceLT, Int.reduceToNat, Int.reduceEq, Int.reduceLT, Int.reduceLE, reduceCtorEq, Nat.reduceMul, Nat.reduceLeDiff, S_api_Node.enc_eq]
    by_cases hc12 : r11 = true
    · replace hq := (R.post_if hq).1 hc12
      refine condK_f (congrArg (fun b => V.bool (!b)) (hc12)) ?_
      try simp only [wp_skip, RC]
      refine Wk.same ?_
      try simp only [RC]
      rw [wp_seq]
      rw [wp_seq]
      refine wp_region_i (by rfl) ?_
      simp only [go_sem, ↓evs_eq, Nat.reduceAdd, ↓reduceIte, Nat.reduceEqDiff, Nat.reduceBEq, Nat.reduceBNe, Nat.reduceLT, Int.reduceToNat, Int.reduceEq, Int.reduceLT, Int.reduceLE, reduceCtorEq, Nat.reduceMul, Nat.reduceLeDiff, S_api_Node.enc_eq]
      obtain ⟨K43, hK44, hq⟩ := R.post_cut hq
      refine glossarylaw07_Few_call (x0 := x1) hq (fun r23 hq => ?_) (fun v hv => ⟨(hX v hv).1, ?_⟩)
      · replace hq := hK44 _ hq
        simp only [go_sem, ↓evs_eq, Nat.reduceAdd, ↓reduceIte, Nat.reduceEqDiff, Nat.reduceBEq, Nat.reduceBNe, Nat.reduceLT, Int.reduceToNat, Int.reduceEq, Int.reduceLT, Int.reduceLE, reduceCtorEq, Nat.reduceMul, Nat.reduceLeDiff, S_api_Node.enc_eq]
        rw [wp_cond]
        simp only [go_sem, ↓evs_eq, Nat.reduceAdd, ↓reduceIte, Nat.reduceEqDiff, Nat.reduceBEq, Nat.reduceBNe, Nat.reduceLT, Int.reduceToNat, Int.reduceEq, Int.reduceLT, Int.reduceLE, reduceCtorEq, Nat.reduceMul, Nat.reduceLeDiff, S_api_Node.enc_eq]
        by_cases hc24 : r23 = true
        · replace hq := (R.post_if hq).1 hc24
          refine condK_f (congrArg (fun b => V.bool (!b)) (hc24)) ?_
          try simp only [wp_skip, RC]
          refine Wk.same ?_
          try simp only [RC]
          rw [wp_seq]
          refine wp_region_i (by rfl) ?_
          simp only [go_sem, ↓evs_eq, Nat.reduceAdd, ↓reduceIte, Nat.reduceEqDiff, Nat.reduceBEq, Nat.reduceBNe, Nat.reduceLT, Int.reduceToNat, Int.reduceEq, Int.reduceLT, Int.reduceLE, reduceCtorEq, Nat.reduceMul, Nat.reduceLeDiff, S_api_Node.enc_eq]
          obtain ⟨K41, hK42, hq⟩ := R.post_cut hq
          refine lower_Default_call (x0 := x0) (x1 := x1) hq (fun r28 hq => ?_) (fun v hv => ⟨(hX v hv).1, ?_⟩)
          · replace hq := hK42 _ hq
            simp only [go_sem, ↓evs_eq, Nat.reduceAdd, ↓reduceIte, Nat.reduceEqDiff, Nat.reduceBEq, Nat.reduceBNe, Nat.reduceLT, Int.reduceToNat, Int.reduceEq, Int.reduceLT, Int.reduceLE, reduceCtorEq, Nat.reduceMul, Nat.reduceLeDiff, S_api_Node.enc_eq]
            rw [wp_seq]
            refine wp_region_i (by rfl) ?_
            simp only [go_sem, ↓evs_eq, Nat.reduceAdd, ↓reduceIte, Nat.reduceEqDiff, Nat.reduceBEq, Nat.reduceBNe, Nat.reduceLT, Int.reduceToNat, Int.reduceEq, Int.reduceLT, Int.reduceLE, reduceCtorEq, Nat.reduceMul, Nat.reduceLeDiff, S_api_Node.enc_eq]
            obtain ⟨K39, hK40, hq⟩ := R.post_cut hq
            refine glossaryref13_Default_call (x0 := x0) (x1 := x1) hq (fun r32 hq => ?_) (fun v hv => ⟨(hX v hv).1, ?_⟩)
            · replace hq := hK40 _ hq
              simp only [go_sem, ↓evs_eq, Nat.reduceAdd, ↓reduceIte, Nat.reduceEqDiff, Nat.reduceBEq, Nat.reduceBNe, Nat.reduceLT, Int.reduceToNat, Int.reduceEq, Int.reduceLT, Int.reduceLE, reduceCtorEq, Nat.reduceMul, Nat.reduceLeDiff, S_api_Node.enc_eq]
              obtain ⟨K35, hK36, hq⟩ := R.post_cut hq
              refine seq_gen (acall_mono hp) (σ := Bool) (fun s => [(0, .int .i64 x0), (1, .agg [.int .i64 x1.Kind, .str x1.Text, .int .i64 x1.N, .int .i64 x1.M, .int .i64 x1.A, .int .i64 x1.At, .str x1.Doc, .sl 8 (List.map S_api_Node.enc x1.Kids)]), (3, .ref h.length 0), (4, .bool s), (5, .str r28.1), (6, .bool r28.2), (7, .str r32.1), (8, .bool r32.2), (10, .bool (!r11)), (13, .bool (!r23))]) (fun s => h ++ [.cells 28 [.int .i64 x1.Kind, .str x1.Text, .int .i64 x1.N, .int .i64 x1.M, .int .i64 x1.A, .int .i64 x1.At, .str x1.Doc, .sl 8 (List.map S_api_Node.enc x1.Kids)]]) (fun s => K35 s) (fun x4m34 hq => ?_) (fun N hN37 => ?_)
              · replace hq := hK36 _ hq
                try dsimp only at hq ⊢
                rw [wp_ret]
                simp only [retQ, results, resultAll, resultOne, Nat.zero_add, scopeQ, go_sem, ↓evs_eq, Nat.reduceAdd, ↓reduceIte, Nat.reduceEqDiff, Nat.reduceBEq, Nat.reduceBNe, Nat.reduceLT, Int.reduceToNat, Int.reduceEq, Int.reduceLT, Int.reduceLE, reduceCtorEq, Nat.reduceMul, Nat.reduceLeDiff, S_api_Node.enc_eq]
                refine ⟨_, (.refl _), ?_⟩
                refine leave_ok rfl (.bool _) ?_
                exact hK _ hq
              · refine wp_region_i (by rfl) ?_
                simp only [go_sem, ↓evs_eq, Nat.reduceAdd, ↓reduceIte, Nat.reduceEqDiff, Nat.reduceBEq, Nat.reduceBNe, Nat.reduceLT, Int.reduceToNat, Int.reduceEq, Int.reduceLT, Int.reduceLE, reduceCtorEq, Nat.reduceMul, Nat.reduceLeDiff, S_api_Node.enc_eq]
                by_cases hc38 : r28.1 = r32.1
                · replace hq := (R.post_if hq).1 hc38
                  simp only [decide_eq_true hc38, go_sem, ↓evs_eq, Nat.reduceAdd, ↓reduceIte, Nat.reduceEqDiff, Nat.reduceBEq, Nat.reduceBNe, Nat.reduceLT, Int.reduceToNat, Int.reduceEq, Int.reduceLT, Int.reduceLE, reduceCtorEq, Nat.reduceMul, Nat.reduceLeDiff, S_api_Node.enc_eq]
                  exact hN37 (r28.2 == r32.2) hq
                · replace hq := (R.post_if hq).2 hc38
                  simp only [decide_eq_false hc38, go_sem, ↓evs_eq, Nat.reduceAdd, ↓reduceIte, Nat.reduceEqDiff, Nat.reduceBEq, Nat.reduceBNe, Nat.reduceLT, Int.reduceToNat, Int.reduceEq, Int.reduceLT, Int.reduceLE, reduceCtorEq, Nat.reduceMul, Nat.reduceLeDiff, S_api_Node.enc_eq]
                  exact hN37 false hq
            · simp only [RC, scopeQ, retQ, ↓reduceIte, Bool.false_eq_true]
              exact leaveP_ok ((hX _ hv).1.mono (Nat.zero_le _)) (hX _ hv).2
          · simp only [RC, scopeQ, retQ, ↓reduceIte, Bool.false_eq_true]
            exact leaveP_ok ((hX _ hv).1.mono (Nat.zero_le _)) (hX _ hv).2
        · replace hq := (R.post_if hq).2 hc24
          replace hc24 := eq_false_of_ne_true hc24
          refine condK_t (congrArg (fun b => V.bool (!b)) (hc24)) ?_
          rw [wp_seq]
          refine wp_region_i (by rfl) ?_
          simp only [go_sem, ↓evs_eq, Nat.reduceAdd, ↓reduceIte, Nat.reduceEqDiff, Nat.reduceBEq, Nat.reduceBNe, Nat.reduceLT, Int.reduceToNat, Int.reduceEq, Int.reduceLT, Int.reduceLE, reduceCtorEq, Nat.reduceMul, Nat.reduceLeDiff, S_api_Node.enc_eq]
          rw [wp_ret]
          simp only [retQ, results, resultAll, resultOne, Nat.zero_add, scopeQ, go_sem, ↓evs_eq, Nat.reduceAdd, ↓reduceIte, Nat.reduceEqDiff, Nat.reduceBEq, Nat.reduceBNe, Nat.reduceLT, Int.reduceToNat, Int.reduceEq, Int.reduceLT, Int.reduceLE, reduceCtorEq, Nat.reduceMul, Nat.reduceLeDiff, S_api_Node.enc_eq]
          refine ⟨_, (.refl _), ?_⟩
          refine leave_ok rfl (.bool _) ?_
          exact hK _ hq
      · simp only [RC, scopeQ, retQ, ↓reduceIte, Bool.false_eq_true]
        exact leaveP_ok ((hX _ hv).1.mono (Nat.zero_le _)) (hX _ hv).2
    · replace hq := (R.post_if hq).2 hc12
      replace hc12 := eq_false_of_ne_true hc12
      refine condK_t (congrArg (fun b => V.bool (!b)) (hc12)) ?_
      rw [wp_seq]
      refine wp_region_i (by rfl) ?_
      simp only [go_sem, ↓evs_eq, Nat.reduceAdd, ↓reduceIte, Nat.reduceEqDiff, Nat.reduceBEq, Nat.reduceBNe, Nat.reduceLT, Int.reduceToNat, Int.reduceEq, Int.reduceLT, Int.reduceLE, reduceCtorEq, Nat.reduceMul, Nat.reduceLeDiff, S_api_Node.enc_eq]
      rw [wp_ret]
      simp only [retQ, results, resultAll, resultOne, Nat.zero_add, scopeQ, go_sem, ↓evs_eq, Nat.reduceAdd, ↓reduceIte, Nat.reduceEqDiff, Nat.reduceBEq, Nat.reduceBNe, Nat.reduceLT, Int.reduceToNat, Int.reduceEq, Int.reduceLT, Int.reduceLE, reduceCtorEq, Nat.reduceMul, Nat.reduceLeDiff, S_api_Node.enc_eq]
      refine ⟨_, (.refl _), ?_⟩
      refine leave_ok rfl (.bool _) ?_
      exact hK _ hq
  · simp only [RC, scopeQ, retQ, ↓reduceIte, Bool.false_eq_true]
    exact leaveP_ok ((hX _ hv).1.mono (Nat.zero_le _)) (hX _ hv).2
end Go.Proofs.YtiigffdmjdooeaaGreatDoor.Pv
