/- Functions of the program, as plain Lean functions, and that the code comes to them: printed by gen.py. -/
import Derived.Test.YtiigffdmjdooeaaGreatDoorG0
set_option linter.unusedVariables false
set_option linter.unusedSimpArgs false
set_option maxHeartbeats 4000000
set_option maxRecDepth 10000
namespace Go.Proofs.YtiigffdmjdooeaaGreatDoor.Pv
open Go Go.Proofs

attribute [local go_sem] RC RL RM loadN V.slz V.slz1 lnB V.left V.lenOf slice3 sliceNil Option.getD_none Option.getD_some sliceOp cut upon_each nextM entryOp buildOk lookup lookV update elemOf Option.isSome_map unOp wanted aop tkB rwB neD Env.get Env.put Env.keep putD dstOk ev constV nilSlice V.demote V.toOwn V.asOwn V.cells tyE R1.res binOp isShift binOpT isC intOp strOp shiftOp byteV index indexAddr slice bounds hiB loB withB maxV minV evs pickV lenV builtin initEnv convert K.isU8 strOf load store fieldOf append appT fltOp cpxV realV imagV toInt rangeOp nextOp room fill placeOf splice repl chunks Ty.val Ty.agg V.plain H.row H.ety AObj.row
def glossarylaw07_size_j0 (x1_68 : Int) : R (Int) :=
  R.ok x1_68
def glossarylaw07_size_l1 (self_glossarylaw07_size : S_api_Node → Int → Int → R (Int)) (x0 : S_api_Node) (x2 : Int) : Nat → Int → Int → R ((Int) ⊕ (Int))
  | 0, _, _ => R.stuck
  | k + 1, x1_83, x28_83 => if x28_83 < (List.length x0.Kids : Int) then (if 0 ≤ x28_83 ∧ x28_83 < (List.length x0.Kids : Int) then (if (400 : Int) < x1_83 then (R.ok (.inr x1_83)) else ((self_glossarylaw07_size (gt x0.Kids x28_83) x1_83 (IntKind.wrap .i64 (x2 + 1))).bind fun r108 => glossarylaw07_size_l1 self_glossarylaw07_size x0 x2 k r108 (IntKind.wrap .i64 (x28_83 + 1)))) else R.stuck) else (R.ok (.inl x1_83))
def glossarylaw07_size_b (self_glossarylaw07_size : S_api_Node → Int → Int → R (Int)) (x0 : S_api_Node) (x1 : Int) (x2 : Int) : R (Int) :=
  (if (80 : Int) < x2 then (R.ok true) else (if (2000 : Int) < (List.length x0.Text : Int) then (R.ok true) else (R.ok (decide ((2000 : Int) < (List.length x0.Doc : Int)))))).bind fun x24m7 => if x24m7 = true then (R.ok 1000) else ((glossarylaw07_size_l1 self_glossarylaw07_size x0 x2 Many (IntKind.wrap .i64 (x1 + 1)) 0).bind fun | (.inl x1p112) => glossarylaw07_size_j0 x1p112 | (.inr rp113) => R.ok rp113)
def glossarylaw07_size_n : Nat → S_api_Node → Int → Int → R (Int)
  | 0 => fun _ _ _ => R.stuck
  | k + 1 => glossarylaw07_size_b (glossarylaw07_size_n k)
def glossarylaw07_size (x0 : S_api_Node) (x1 : Int) (x2 : Int) : R (Int) := glossarylaw07_size_n Many x0 x1 x2
theorem glossarylaw07_size_b_call {self_glossarylaw07_size : S_api_Node → Int → Int → R (Int)} (ih_glossarylaw07_size : ∀ {h : H} {x0 : S_api_Node} {x1 : Int} {x2 : Int} {Q : Out → H → Prop} {KK : (Int) → Prop} {X : V → Prop} (hq : (self_glossarylaw07_size x0 x1 x2).post KK X) (hK : ∀ r, KK r → Q (.ret (.int .i64 r)) h) (hX : ∀ v, X v → V.Cl 0 v ∧ Q (.panic v) h), CA qprim 16 [.agg [.int .i64 x0.Kind, .str x0.Text, .int .i64 x0.N, .int .i64 x0.M, .int .i64 x0.A, .int .i64 x0.At, .str x0.Doc, .sl 8 (List.map S_api_Node.enc x0.Kids)], .int .i64 x1, .int .i64 x2] h Q) {h : H} {x0 : S_api_Node} {x1 : Int} {x2 : Int} {Q : Out → H → Prop} {KK : (Int) → Prop} {X : V → Prop} (hq : (glossarylaw07_size_b self_glossarylaw07_size x0 x1 x2).post KK X) (hK : ∀ r, KK r → Q (.ret (.int .i64 r)) h) (hX : ∀ v, X v → V.Cl 0 v ∧ Q (.panic v) h) : CA qprim 16 [.agg [.int .i64 x0.Kind, .str x0.Text, .int .i64 x0.N, .int .i64 x0.M, .int .i64 x0.A, .int .i64 x0.At, .str x0.Doc, .sl 8 (List.map S_api_Node.enc x0.Kids)], .int .i64 x1, .int .i64 x2] h Q := by
  refine acalln hp Tryz.func16 rfl (by kernel_rfl) (n := 42) rfl (rs := [.tmp 6]) rfl [0, 1, 2, 3, 6, 8, 24, 26, 27, 28, 29, 33] [] true (by simp) ?_
  unfold glossarylaw07_size_b at hq
  simp only [initEnv, List.map_cons, List.map_nil, List.getD_cons_zero, List.getD_cons_succ, List.getD_nil, V.demote]
  rw [wp_seq]
  refine wp_region_i (by rfl) ?_
  simp only [go_sem, ↓evs_eq, Nat.reduceAdd, ↓reduceIte, Nat.reduceEqDiff, Nat.reduceBEq, Nat.reduceBNe, Nat.reduceLT, Int.reduceToNat, Int.reduceEq, Int.reduceLT, Int.reduceLE, reduceCtorEq, Nat.reduceMul, Nat.reduceLeDiff, S_api_Node.enc_eq]
  rw [wp_seq]
  refine wp_region_i (by rfl) ?_
  simp only [go_sem, ↓evs_eq, Nat.reduceAdd, ↓reduceIte, Nat.reduceEqDiff, Nat.reduceBEq, Nat.reduceBNe, Nat.reduceLT, Int.reduceToNat, Int.reduceEq, Int.reduceLT, Int.reduceLE, reduceCtorEq, Nat.reduceMul, Nat.reduceLeDiff, S_api_Node.enc_eq]
  rw [wp_seq]
  obtain ⟨K8, hK9, hq⟩ := R.post_cut hq
  refine seq_gen (acall_mono hp) (σ := Bool) (fun s => [(0, .agg [.int .i64 x0.Kind, .str x0.Text, .int .i64 x0.N, .int .i64 x0.M, .int .i64 x0.A, .int .i64 x0.At, .str x0.Doc, .sl 8 (List.map S_api_Node.enc x0.Kids)]), (1, .int .i64 (IntKind.wrap .i64 (x1 + 1))), (2, .int .i64 x2), (3, .ref h.length 0), (6, .int .i64 0), (8, .top), (24, .bool s), (26, .top), (27, .top), (28, .top), (29, .top), (33, .top)]) (fun s => h ++ [.cells 28 [.int .i64 x0.Kind, .str x0.Text, .int .i64 x0.N, .int .i64 x0.M, .int .i64 x0.A, .int .i64 x0.At, .str x0.Doc, .sl 8 (List.map S_api_Node.enc x0.Kids)]]) (fun s => K8 s) (fun x24m7 hq => ?_) (fun N hN10 => ?_)
  · replace hq := hK9 _ hq
    try dsimp only at hq ⊢
    rw [wp_cond]
    simp only [go_sem, ↓evs_eq, Nat.reduceAdd, ↓reduceIte, Nat.reduceEqDiff, Nat.reduceBEq, Nat.reduceBNe, Nat.reduceLT, Int.reduceToNat, Int.reduceEq, Int.reduceLT, Int.reduceLE, reduceCtorEq, Nat.reduceMul, Nat.reduceLeDiff, S_api_Node.enc_eq]
    by_cases hc13 : x24m7 = true
    · replace hq := (R.post_if hq).1 hc13
      refine condK_t (congrArg V.bool (hc13)) ?_
      rw [wp_seq]
      refine wp_region_i (by rfl) ?_
      simp only [go_sem, ↓evs_eq, Nat.reduceAdd, ↓reduceIte, Nat.reduceEqDiff, Nat.reduceBEq, Nat.reduceBNe, Nat.reduceLT, Int.reduceToNat, Int.reduceEq, Int.reduceLT, Int.reduceLE, reduceCtorEq, Nat.reduceMul, Nat.reduceLeDiff, S_api_Node.enc_eq]
      rw [wp_ret]
      simp only [retQ, results, resultAll, resultOne, Nat.zero_add, scopeQ, go_sem, ↓evs_eq, Nat.reduceAdd, ↓reduceIte, Nat.reduceEqDiff, Nat.reduceBEq, Nat.reduceBNe, Nat.reduceLT, Int.reduceToNat, Int.reduceEq, Int.reduceLT, Int.reduceLE, reduceCtorEq, Nat.reduceMul, Nat.reduceLeDiff, S_api_Node.enc_eq]
      refine ⟨_, (.refl _), ?_⟩
      refine leave_ok rfl (.int _ _) ?_
      exact hK _ hq
    · replace hq := (R.post_if hq).2 hc13
      replace hc13 := eq_false_of_ne_true hc13
      refine condK_f (congrArg V.bool (hc13)) ?_
      try simp only [wp_skip, RC]
      refine Wk.same ?_
      try simp only [RC]
      refine seq_gen (acall_mono hp) (σ := V × Int × V × V × V × V × V × V × V × V × V) (fun s => [(0, s.1), (1, .int .i64 s.2.1), (2, .int .i64 x2), (3, s.2.2.1), (6, s.2.2.2.1), (8, s.2.2.2.2.1), (24, s.2.2.2.2.2.1), (26, s.2.2.2.2.2.2.1), (27, s.2.2.2.2.2.2.2.1), (28, s.2.2.2.2.2.2.2.2.1), (29, s.2.2.2.2.2.2.2.2.2.1), (33, s.2.2.2.2.2.2.2.2.2.2)]) (fun s => h ++ [.cells 28 [.int .i64 x0.Kind, .str x0.Text, .int .i64 x0.N, .int .i64 x0.M, .int .i64 x0.A, .int .i64 x0.At, .str x0.Doc, .sl 8 (List.map S_api_Node.enc x0.Kids)]]) (fun s => (glossarylaw07_size_j0 s.2.1).post KK X) (fun s hq => ?_) (fun N hN69 => ?_)
      · obtain ⟨y0_68, x1_68, y3_68, y6_68, y8_68, y24_68, y26_68, y27_68, y28_68, y29_68, y33_68⟩ := s
        try dsimp only at hq ⊢
        unfold glossarylaw07_size_j0 at hq
        rw [wp_seq]
        refine wp_region_i (by rfl) ?_
        simp only [go_sem, ↓evs_eq, Nat.reduceAdd, ↓reduceIte, Nat.reduceEqDiff, Nat.reduceBEq, Nat.reduceBNe, Nat.reduceLT, Int.reduceToNat, Int.reduceEq, Int.reduceLT, Int.reduceLE, reduceCtorEq, Nat.reduceMul, Nat.reduceLeDiff, S_api_Node.enc_eq]
        rw [wp_ret]
        simp only [retQ, results, resultAll, resultOne, Nat.zero_add, scopeQ, go_sem, ↓evs_eq, Nat.reduceAdd, ↓reduceIte, Nat.reduceEqDiff, Nat.reduceBEq, Nat.reduceBNe, Nat.reduceLT, Int.reduceToNat, Int.reduceEq, Int.reduceLT, Int.reduceLE, reduceCtorEq, Nat.reduceMul, Nat.reduceLeDiff, S_api_Node.enc_eq]
        refine ⟨_, (.refl _), ?_⟩
        refine leave_ok rfl (.int _ _) ?_
        exact hK _ hq
      · rw [wp_seq]
        refine wp_region_i (by rfl) ?_
        simp only [go_sem, ↓evs_eq, Nat.reduceAdd, ↓reduceIte, Nat.reduceEqDiff, Nat.reduceBEq, Nat.reduceBNe, Nat.reduceLT, Int.reduceToNat, Int.reduceEq, Int.reduceLT, Int.reduceLE, reduceCtorEq, Nat.reduceMul, Nat.reduceLeDiff, S_api_Node.enc_eq]
        rw [wp_block]
        refine loop_in ?_
        refine Wk.le (EnvLe.cons (.top _) (EnvLe.cons (.refl _) (EnvLe.cons (.refl _) (EnvLe.cons (.top _) (EnvLe.cons (.top _) (EnvLe.cons (.refl _) (EnvLe.cons (.top _) (EnvLe.cons (.refl _) (EnvLe.cons (.refl _) (EnvLe.cons (.refl _) (EnvLe.cons (.refl _) (EnvLe.cons (.refl _) EnvLe.nil)))))))))))) ?_
        obtain ⟨K96, hK97, hq⟩ := R.post_cut hq
        refine loop_gen (acall_mono hp) (σ := V × Int × V × V × V × V × Int × V × V) (fun s => [(0, s.1), (1, .int .i64 s.2.1), (2, .int .i64 x2), (3, s.2.2.1), (6, s.2.2.2.1), (8, s.2.2.2.2.1), (24, s.2.2.2.2.2.1), (26, .sl 8 (List.map S_api_Node.enc x0.Kids)), (27, .int .i64 (List.length x0.Kids : Int)), (28, .int .i64 s.2.2.2.2.2.2.1), (29, s.2.2.2.2.2.2.2.1), (33, s.2.2.2.2.2.2.2.2)]) (fun s => h ++ [.cells 28 [.int .i64 x0.Kind, .str x0.Text, .int .i64 x0.N, .int .i64 x0.M, .int .i64 x0.A, .int .i64 x0.At, .str x0.Doc, .sl 8 (List.map S_api_Node.enc x0.Kids)]]) (fun k s => (glossarylaw07_size_l1 self_glossarylaw07_size x0 x2 k s.2.1 s.2.2.2.2.2.2.1).post K96 X) (fun s hs => hs) (fun k111 s hq N hN98 => ?_) _ (_, (IntKind.wrap .i64 (x1 + 1)), _, _, _, _, 0, _, _) hq
        obtain ⟨y0_83, x1_83, y3_83, y6_83, y8_83, y24_83, x28_83, y29_83, y33_83⟩ := s
        try dsimp only at hq ⊢
        rw [glossarylaw07_size_l1] at hq
        rw [wp_seq]
        refine wp_region_i (by rfl) ?_
        simp only [go_sem, ↓evs_eq, Nat.reduceAdd, ↓reduceIte, Nat.reduceEqDiff, Nat.reduceBEq, Nat.reduceBNe, Nat.reduceLT, Int.reduceToNat, Int.reduceEq, Int.reduceLT, Int.reduceLE, reduceCtorEq, Nat.reduceMul, Nat.reduceLeDiff, S_api_Node.enc_eq]
        rw [wp_seq]
        rw [wp_cond]
        simp only [go_sem, ↓evs_eq, Nat.reduceAdd, ↓reduceIte, Nat.reduceEqDiff, Nat.reduceBEq, Nat.reduceBNe, Nat.reduceLT, Int.reduceToNat, Int.reduceEq, Int.reduceLT, Int.reduceLE, reduceCtorEq, Nat.reduceMul, Nat.reduceLeDiff, S_api_Node.enc_eq]
        by_cases hc99 : x28_83 < (List.length x0.Kids : Int)
        · replace hq := (R.post_if hq).1 hc99
          refine condK_t (congrArg V.bool (decide_eq_true hc99)) ?_
          try simp only [wp_skip, RC]
          refine Wk.same ?_
          try simp only [RC]
          rw [wp_seq]
          rw [wp_block]
          rw [wp_seq]
          refine wp_region_i (by rfl) ?_
          obtain ⟨g102, hq⟩ := R.guard hq
          have e103 := map_gt (f := S_api_Node.enc) (l := x0.Kids) (i := x28_83) g102
          simp only [e103, go_sem, ↓evs_eq, Nat.reduceAdd, ↓reduceIte, Nat.reduceEqDiff, Nat.reduceBEq, Nat.reduceBNe, Nat.reduceLT, Int.reduceToNat, Int.reduceEq, Int.reduceLT, Int.reduceLE, reduceCtorEq, Nat.reduceMul, Nat.reduceLeDiff, S_api_Node.enc_eq]
          repeat (with_reducible refine And.intro (by first | omega | assumption) ?_)
          rw [wp_seq]
          rw [wp_seq]
          refine wp_region_i (by rfl) ?_
          simp only [go_sem, ↓evs_eq, Nat.reduceAdd, ↓reduceIte, Nat.reduceEqDiff, Nat.reduceBEq, Nat.reduceBNe, Nat.reduceLT, Int.reduceToNat, Int.reduceEq, Int.reduceLT, Int.reduceLE, reduceCtorEq, Nat.reduceMul, Nat.reduceLeDiff, S_api_Node.enc_eq]
          rw [wp_cond]
          simp only [go_sem, ↓evs_eq, Nat.reduceAdd, ↓reduceIte, Nat.reduceEqDiff, Nat.reduceBEq, Nat.reduceBNe, Nat.reduceLT, Int.reduceToNat, Int.reduceEq, Int.reduceLT, Int.reduceLE, reduceCtorEq, Nat.reduceMul, Nat.reduceLeDiff, S_api_Node.enc_eq]
          by_cases hc104 : (400 : Int) < x1_83
          · replace hq := (R.post_if hq).1 hc104
            refine condK_t (congrArg V.bool (decide_eq_true hc104)) ?_
            rw [wp_seq]
            refine wp_region_i (by rfl) ?_
            simp only [go_sem, ↓evs_eq, Nat.reduceAdd, ↓reduceIte, Nat.reduceEqDiff, Nat.reduceBEq, Nat.reduceBNe, Nat.reduceLT, Int.reduceToNat, Int.reduceEq, Int.reduceLT, Int.reduceLE, reduceCtorEq, Nat.reduceMul, Nat.reduceLeDiff, S_api_Node.enc_eq]
            rw [wp_ret]
            simp only [retQ, results, resultAll, resultOne, Nat.zero_add, scopeQ, go_sem, ↓evs_eq, Nat.reduceAdd, ↓reduceIte, Nat.reduceEqDiff, Nat.reduceBEq, Nat.reduceBNe, Nat.reduceLT, Int.reduceToNat, Int.reduceEq, Int.reduceLT, Int.reduceLE, reduceCtorEq, Nat.reduceMul, Nat.reduceLeDiff, S_api_Node.enc_eq]
            refine ⟨_, (.refl _), ?_⟩
            refine leave_ok rfl (.int _ _) ?_
            replace hq := hK97 _ hq
            exact hK _ hq
          · replace hq := (R.post_if hq).2 hc104
            refine condK_f (congrArg V.bool (decide_eq_false hc104)) ?_
            try simp only [wp_skip, RC]
            refine Wk.same ?_
            try simp only [RC]
            refine wp_region_i (by rfl) ?_
            simp only [go_sem, ↓evs_eq, Nat.reduceAdd, ↓reduceIte, Nat.reduceEqDiff, Nat.reduceBEq, Nat.reduceBNe, Nat.reduceLT, Int.reduceToNat, Int.reduceEq, Int.reduceLT, Int.reduceLE, reduceCtorEq, Nat.reduceMul, Nat.reduceLeDiff, S_api_Node.enc_eq]
            obtain ⟨K109, hK110, hq⟩ := R.post_cut hq
            refine ih_glossarylaw07_size (x0 := (gt x0.Kids x28_83)) (x1 := x1_83) (x2 := (IntKind.wrap .i64 (x2 + 1))) hq (fun r108 hq => ?_) (fun v hv => ⟨(hX v hv).1, ?_⟩)
            · replace hq := hK110 _ hq
              simp only [go_sem, ↓evs_eq, Nat.reduceAdd, ↓reduceIte, Nat.reduceEqDiff, Nat.reduceBEq, Nat.reduceBNe, Nat.reduceLT, Int.reduceToNat, Int.reduceEq, Int.reduceLT, Int.reduceLE, reduceCtorEq, Nat.reduceMul, Nat.reduceLeDiff, S_api_Node.enc_eq]
              refine Wk.drop [.cells 28 [.int .i64 x0.Kind, .str x0.Text, .int .i64 x0.N, .int .i64 x0.M, .int .i64 x0.A, .int .i64 x0.At, .str x0.Doc, .sl 8 (List.map S_api_Node.enc x0.Kids)]] _ [.cells 28 [.int .i64 ((gt x0.Kids x28_83).Kind), .str (gt x0.Kids x28_83).Text, .int .i64 ((gt x0.Kids x28_83).N), .int .i64 ((gt x0.Kids x28_83).M), .int .i64 ((gt x0.Kids x28_83).A), .int .i64 ((gt x0.Kids x28_83).At), .str (gt x0.Kids x28_83).Doc, .sl 8 (List.map S_api_Node.enc (gt x0.Kids x28_83).Kids)]] rfl rfl (EnvLe.cons (.top _) (EnvLe.cons (.refl _) (EnvLe.cons (.refl _) (EnvLe.cons (.top _) (EnvLe.cons (.top _) (EnvLe.cons (.top _) (EnvLe.cons (.top _) (EnvLe.cons (.refl _) (EnvLe.cons (.refl _) (EnvLe.cons (.refl _) (EnvLe.cons (.top _) (EnvLe.cons (.top _) EnvLe.nil)))))))))))) (EnvCl.cons .top (EnvCl.cons (.int _ _) (EnvCl.cons (.int _ _) (EnvCl.cons .top (EnvCl.cons .top (EnvCl.cons .top (EnvCl.cons .top (EnvCl.cons (.sl _ _ (cl_map (S_api_Node.cl _))) (EnvCl.cons (.int _ _) (EnvCl.cons (.int _ _) (EnvCl.cons .top (EnvCl.cons .top (EnvCl.nil _))))))))))))) (objcl_cons (cl_cons (.int _ _) (cl_cons (.str _) (cl_cons (.int _ _) (cl_cons (.int _ _) (cl_cons (.int _ _) (cl_cons (.int _ _) (cl_cons (.str _) (cl_cons (.sl _ _ (cl_map (S_api_Node.cl _))) cl_nil)))))))) objcl_nil) ?_
              try simp only [RC]
              refine wp_region_i (by rfl) ?_
              simp only [go_sem, ↓evs_eq, Nat.reduceAdd, ↓reduceIte, Nat.reduceEqDiff, Nat.reduceBEq, Nat.reduceBNe, Nat.reduceLT, Int.reduceToNat, Int.reduceEq, Int.reduceLT, Int.reduceLE, reduceCtorEq, Nat.reduceMul, Nat.reduceLeDiff, S_api_Node.enc_eq]
              refine Wk.same ?_
              exact hN98 (_, r108, _, _, _, _, (IntKind.wrap .i64 (x28_83 + 1)), _, _) hq
            · simp only [RC, scopeQ, retQ, ↓reduceIte, Bool.false_eq_true]
              exact leaveP_ok ((hX _ hv).1.mono (Nat.zero_le _)) (hX _ hv).2
        · replace hq := (R.post_if hq).2 hc99
          refine condK_f (congrArg V.bool (decide_eq_false hc99)) ?_
          rw [wp_exit]
          try simp only [↓reduceIte, Nat.reduceEqDiff, reduceCtorEq, if_false, if_true, eq_self, Nat.succ_ne_self, RC]
          replace hq := hK97 _ hq
          try dsimp only at hq
          refine Wk.le (EnvLe.cons (.refl _) (EnvLe.cons (.refl _) (EnvLe.cons (.refl _) (EnvLe.cons (.refl _) (EnvLe.cons (.refl _) (EnvLe.cons (.refl _) (EnvLe.cons (.refl _) (EnvLe.cons (.top _) (EnvLe.cons (.top _) (EnvLe.cons (.top _) (EnvLe.cons (.top _) (EnvLe.cons (.refl _) EnvLe.nil)))))))))))) ?_
          try simp only [RC]
          exact hN69 (_, x1_83, _, _, _, _, _, _, _, _, _) hq
  · refine wp_region_i (by rfl) ?_
    simp only [go_sem, ↓evs_eq, Nat.reduceAdd, ↓reduceIte, Nat.reduceEqDiff, Nat.reduceBEq, Nat.reduceBNe, Nat.reduceLT, Int.reduceToNat, Int.reduceEq, Int.reduceLT, Int.reduceLE, reduceCtorEq, Nat.reduceMul, Nat.reduceLeDiff, S_api_Node.enc_eq]
    by_cases hc11 : (80 : Int) < x2
    · replace hq := (R.post_if hq).1 hc11
      simp only [decide_eq_true hc11, go_sem, ↓evs_eq, Nat.reduceAdd, ↓reduceIte, Nat.reduceEqDiff, Nat.reduceBEq, Nat.reduceBNe, Nat.reduceLT, Int.reduceToNat, Int.reduceEq, Int.reduceLT, Int.reduceLE, reduceCtorEq, Nat.reduceMul, Nat.reduceLeDiff, S_api_Node.enc_eq]
      exact hN10 true hq
    · replace hq := (R.post_if hq).2 hc11
      simp only [decide_eq_false hc11, go_sem, ↓evs_eq, Nat.reduceAdd, ↓reduceIte, Nat.reduceEqDiff, Nat.reduceBEq, Nat.reduceBNe, Nat.reduceLT, Int.reduceToNat, Int.reduceEq, Int.reduceLT, Int.reduceLE, reduceCtorEq, Nat.reduceMul, Nat.reduceLeDiff, S_api_Node.enc_eq]
      by_cases hc12 : (2000 : Int) < (List.length x0.Text : Int)
      · replace hq := (R.post_if hq).1 hc12
        simp only [decide_eq_true hc12, go_sem, ↓evs_eq, Nat.reduceAdd, ↓reduceIte, Nat.reduceEqDiff, Nat.reduceBEq, Nat.reduceBNe, Nat.reduceLT, Int.reduceToNat, Int.reduceEq, Int.reduceLT, Int.reduceLE, reduceCtorEq, Nat.reduceMul, Nat.reduceLeDiff, S_api_Node.enc_eq]
        exact hN10 true hq
      · replace hq := (R.post_if hq).2 hc12
        simp only [decide_eq_false hc12, go_sem, ↓evs_eq, Nat.reduceAdd, ↓reduceIte, Nat.reduceEqDiff, Nat.reduceBEq, Nat.reduceBNe, Nat.reduceLT, Int.reduceToNat, Int.reduceEq, Int.reduceLT, Int.reduceLE, reduceCtorEq, Nat.reduceMul, Nat.reduceLeDiff, S_api_Node.enc_eq]
        exact hN10 (decide ((2000 : Int) < (List.length x0.Doc : Int))) hq
theorem glossarylaw07_size_ih (k : Nat) : ∀ {h : H} {x0 : S_api_Node} {x1 : Int} {x2 : Int} {Q : Out → H → Prop} {KK : (Int) → Prop} {X : V → Prop} (hq : (glossarylaw07_size_n k x0 x1 x2).post KK X) (hK : ∀ r, KK r → Q (.ret (.int .i64 r)) h) (hX : ∀ v, X v → V.Cl 0 v ∧ Q (.panic v) h), CA qprim 16 [.agg [.int .i64 x0.Kind, .str x0.Text, .int .i64 x0.N, .int .i64 x0.M, .int .i64 x0.A, .int .i64 x0.At, .str x0.Doc, .sl 8 (List.map S_api_Node.enc x0.Kids)], .int .i64 x1, .int .i64 x2] h Q := by
  induction k with
  | zero => intro h x0 x1 x2 Q KK X hq; exact False.elim hq
  | succ k ih => intro h x0 x1 x2 Q KK X hq hK hX; exact glossarylaw07_size_b_call (ih_glossarylaw07_size := ih) hq hK hX
theorem glossarylaw07_size_call {h : H} {x0 : S_api_Node} {x1 : Int} {x2 : Int} {Q : Out → H → Prop} {KK : (Int) → Prop} {X : V → Prop} (hq : (glossarylaw07_size x0 x1 x2).post KK X) (hK : ∀ r, KK r → Q (.ret (.int .i64 r)) h) (hX : ∀ v, X v → V.Cl 0 v ∧ Q (.panic v) h) : CA qprim 16 [.agg [.int .i64 x0.Kind, .str x0.Text, .int .i64 x0.N, .int .i64 x0.M, .int .i64 x0.A, .int .i64 x0.At, .str x0.Doc, .sl 8 (List.map S_api_Node.enc x0.Kids)], .int .i64 x1, .int .i64 x2] h Q := glossarylaw07_size_ih Many hq hK hX

def glossarylaw07_Few (x0 : S_api_Node) : R (Bool) :=
  (glossarylaw07_size x0 0 0).bind fun r4 => R.ok (decide (r4 ≤ 400))
theorem glossarylaw07_Few_call {h : H} {x0 : S_api_Node} {Q : Out → H → Prop} {KK : (Bool) → Prop} {X : V → Prop} (hq : (glossarylaw07_Few x0).post KK X) (hK : ∀ r, KK r → Q (.ret (.bool r)) h) (hX : ∀ v, X v → V.Cl 0 v ∧ Q (.panic v) h) : CA qprim 10 [.agg [.int .i64 x0.Kind, .str x0.Text, .int .i64 x0.N, .int .i64 x0.M, .int .i64 x0.A, .int .i64 x0.At, .str x0.Doc, .sl 8 (List.map S_api_Node.enc x0.Kids)]] h Q := by
  refine acalln hp Tryz.func10 rfl (by kernel_rfl) (n := 6) rfl (rs := [.tmp 2]) rfl [0, 1, 2] [] true (by simp) ?_
  unfold glossarylaw07_Few at hq
  simp only [initEnv, List.map_cons, List.map_nil, List.getD_cons_zero, List.getD_cons_succ, List.getD_nil, V.demote]
  rw [wp_seq]
  refine wp_region_i (by rfl) ?_
  simp only [go_sem, ↓evs_eq, Nat.reduceAdd, ↓reduceIte, Nat.reduceEqDiff, Nat.reduceBEq, Nat.reduceBNe, Nat.reduceLT, Int.reduceToNat, Int.reduceEq, Int.reduceLT, Int.reduceLE, reduceCtorEq, Nat.reduceMul, Nat.reduceLeDiff, S_api_Node.enc_eq]
  rw [wp_seq]
  refine wp_region_i (by rfl) ?_
  simp only [go_sem, ↓evs_eq, Nat.reduceAdd, ↓reduceIte, Nat.reduceEqDiff, Nat.reduceBEq, Nat.reduceBNe, Nat.reduceLT, Int.reduceToNat, Int.reduceEq, Int.reduceLT, Int.reduceLE, reduceCtorEq, Nat.reduceMul, Nat.reduceLeDiff, S_api_Node.enc_eq]
  obtain ⟨K5, hK6, hq⟩ := R.post_cut hq
  refine glossarylaw07_size_call (x0 := x0) (x1 := 0) (x2 := 0) hq (fun r4 hq => ?_) (fun v hv => ⟨(hX v hv).1, ?_⟩)
  · replace hq := hK6 _ hq
    simp only [go_sem, ↓evs_eq, Nat.reduceAdd, ↓reduceIte, Nat.reduceEqDiff, Nat.reduceBEq, Nat.reduceBNe, Nat.reduceLT, Int.reduceToNat, Int.reduceEq, Int.reduceLT, Int.reduceLE, reduceCtorEq, Nat.reduceMul, Nat.reduceLeDiff, S_api_Node.enc_eq]
    rw [wp_ret]
    simp only [retQ, results, resultAll, resultOne, Nat.zero_add, scopeQ, go_sem, ↓evs_eq, Nat.reduceAdd, ↓reduceIte, Nat.reduceEqDiff, Nat.reduceBEq, Nat.reduceBNe, Nat.reduceLT, Int.reduceToNat, Int.reduceEq, Int.reduceLT, Int.reduceLE, reduceCtorEq, Nat.reduceMul, Nat.reduceLeDiff, S_api_Node.enc_eq]
    refine ⟨_, (.refl _), ?_⟩
    refine leave_ok rfl (.bool _) ?_
    exact hK _ hq
  · simp only [RC, scopeQ, retQ, ↓reduceIte, Bool.false_eq_true]
    exact leaveP_ok ((hX _ hv).1.mono (Nat.zero_le _)) (hX _ hv).2

def lower_Bounds_j0 (x16_29 : Bool) : R (Int × Int) :=
  if x16_29 = true then (R.ok (18446744073709551615, 0)) else (R.ok (0, 0))
def lower_Bounds_j1 (x0 : Int) (x13_26 : Bool) : R (Int × Int) :=
  if x13_26 = true then (R.ok (4294967295, 0)) else (if x0 = 4 then (lower_Bounds_j0 (decide (x0 = 4))) else (lower_Bounds_j0 (decide (x0 = 6))))
def lower_Bounds_j2 (x0 : Int) (x9_23 : Bool) : R (Int × Int) :=
  if x9_23 = true then (R.ok (9223372036854775807, 9223372036854775808)) else (if x0 = 13 then (lower_Bounds_j1 x0 (decide (x0 = 13))) else (lower_Bounds_j1 x0 (decide (x0 = 7))))
def lower_Bounds_j3 (x0 : Int) (x5_21 : Bool) : R (Int × Int) :=
  if x5_21 = true then (R.ok (2147483647, 2147483648)) else (if x0 = 3 then (lower_Bounds_j2 x0 (decide (x0 = 3))) else (if x0 = 18 then (lower_Bounds_j2 x0 (decide (x0 = 18))) else (lower_Bounds_j2 x0 (decide (x0 = 16)))))
def lower_Bounds (x0 : Int) : R (Int × Int) :=
  if x0 = 5 then (lower_Bounds_j3 x0 (decide (x0 = 5))) else (if x0 = 17 then (lower_Bounds_j3 x0 (decide (x0 = 17))) else (lower_Bounds_j3 x0 (decide (x0 = 15))))
theorem lower_Bounds_call {h : H} {x0 : Int} {Q : Out → H → Prop} {KK : (Int × Int) → Prop} {X : V → Prop} (hq : (lower_Bounds x0).post KK X) (hK : ∀ r, KK r → Q (.ret (.tup [.int .u64 r.1, .int .u64 r.2])) h) (hX : ∀ v, X v → V.Cl 0 v ∧ Q (.panic v) h) : CA qprim 25 [.int .i64 x0] h Q := by
  refine acalln hp Tryz.func25 rfl (by kernel_rfl) (n := 19) rfl (rs := [.tmp 2, .tmp 3]) rfl [0, 2, 3, 4, 5, 9, 13, 16] [] false (by simp) ?_
  unfold lower_Bounds at hq
  simp only [initEnv, List.map_cons, List.map_nil, List.getD_cons_zero, List.getD_cons_succ, List.getD_nil, V.demote]
  rw [wp_seq]
  refine wp_region_i (by rfl) ?_
  simp only [go_sem, ↓evs_eq, Nat.reduceAdd, ↓reduceIte, Nat.reduceEqDiff, Nat.reduceBEq, Nat.reduceBNe, Nat.reduceLT, Int.reduceToNat, Int.reduceEq, Int.reduceLT, Int.reduceLE, reduceCtorEq, Nat.reduceMul, Nat.reduceLeDiff, S_api_Node.enc_eq]
  rw [wp_seq]
  rw [wp_seq]
  refine wp_region_i (by rfl) ?_
  simp only [go_sem, ↓evs_eq, Nat.reduceAdd, ↓reduceIte, Nat.reduceEqDiff, Nat.reduceBEq, Nat.reduceBNe, Nat.reduceLT, Int.reduceToNat, Int.reduceEq, Int.reduceLT, Int.reduceLE, reduceCtorEq, Nat.reduceMul, Nat.reduceLeDiff, S_api_Node.enc_eq]
  rw [wp_block]
  refine seq_gen (acall_mono hp) (σ := Bool) (fun s => [(0, .int .i64 x0), (2, .int .u64 0), (3, .int .u64 0), (4, .int .i64 x0), (5, .bool s), (9, .top), (13, .top), (16, .top)]) (fun s => h) (fun s => (lower_Bounds_j3 x0 s).post KK X) (fun x5_21 hq => ?_) (fun N hN38 => ?_)
  · try dsimp only at hq ⊢
    unfold lower_Bounds_j3 at hq
    rw [wp_cond]
    simp only [go_sem, ↓evs_eq, Nat.reduceAdd, ↓reduceIte, Nat.reduceEqDiff, Nat.reduceBEq, Nat.reduceBNe, Nat.reduceLT, Int.reduceToNat, Int.reduceEq, Int.reduceLT, Int.reduceLE, reduceCtorEq, Nat.reduceMul, Nat.reduceLeDiff, S_api_Node.enc_eq]
    by_cases hc22 : x5_21 = true
    · replace hq := (R.post_if hq).1 hc22
      refine condK_t (congrArg V.bool (hc22)) ?_
      rw [wp_seq]
      refine wp_region_i (by rfl) ?_
      simp only [go_sem, ↓evs_eq, Nat.reduceAdd, ↓reduceIte, Nat.reduceEqDiff, Nat.reduceBEq, Nat.reduceBNe, Nat.reduceLT, Int.reduceToNat, Int.reduceEq, Int.reduceLT, Int.reduceLE, reduceCtorEq, Nat.reduceMul, Nat.reduceLeDiff, S_api_Node.enc_eq]
      rw [wp_ret]
      simp only [retQ, results, resultAll, resultOne, Nat.zero_add, scopeQ, go_sem, ↓evs_eq, Nat.reduceAdd, ↓reduceIte, Nat.reduceEqDiff, Nat.reduceBEq, Nat.reduceBNe, Nat.reduceLT, Int.reduceToNat, Int.reduceEq, Int.reduceLT, Int.reduceLE, reduceCtorEq, Nat.reduceMul, Nat.reduceLeDiff, S_api_Node.enc_eq]
      refine ⟨_, (.refl _), ?_⟩
      exact hK _ hq
    · replace hq := (R.post_if hq).2 hc22
      replace hc22 := eq_false_of_ne_true hc22
      refine condK_f (congrArg V.bool (hc22)) ?_
      refine seq_gen (acall_mono hp) (σ := V × Bool) (fun s => [(0, .int .i64 x0), (2, .int .u64 0), (3, .int .u64 0), (4, .int .i64 x0), (5, s.1), (9, .bool s.2), (13, .top), (16, .top)]) (fun s => h) (fun s => (lower_Bounds_j2 x0 s.2).post KK X) (fun s hq => ?_) (fun N hN35 => ?_)
      · obtain ⟨y5_23, x9_23⟩ := s
        try dsimp only at hq ⊢
        unfold lower_Bounds_j2 at hq
        rw [wp_cond]
        simp only [go_sem, ↓evs_eq, Nat.reduceAdd, ↓reduceIte, Nat.reduceEqDiff, Nat.reduceBEq, Nat.reduceBNe, Nat.reduceLT, Int.reduceToNat, Int.reduceEq, Int.reduceLT, Int.reduceLE, reduceCtorEq, Nat.reduceMul, Nat.reduceLeDiff, S_api_Node.enc_eq]
        by_cases hc24 : x9_23 = true
        · replace hq := (R.post_if hq).1 hc24
          refine condK_t (congrArg V.bool (hc24)) ?_
          rw [wp_seq]
          refine wp_region_i (by rfl) ?_
          simp only [go_sem, ↓evs_eq, Nat.reduceAdd, ↓reduceIte, Nat.reduceEqDiff, Nat.reduceBEq, Nat.reduceBNe, Nat.reduceLT, Int.reduceToNat, Int.reduceEq, Int.reduceLT, Int.reduceLE, reduceCtorEq, Nat.reduceMul, Nat.reduceLeDiff, S_api_Node.enc_eq]
          rw [wp_ret]
          simp only [retQ, results, resultAll, resultOne, Nat.zero_add, scopeQ, go_sem, ↓evs_eq, Nat.reduceAdd, ↓reduceIte, Nat.reduceEqDiff, Nat.reduceBEq, Nat.reduceBNe, Nat.reduceLT, Int.reduceToNat, Int.reduceEq, Int.reduceLT, Int.reduceLE, reduceCtorEq, Nat.reduceMul, Nat.reduceLeDiff, S_api_Node.enc_eq]
          refine ⟨_, (.refl _), ?_⟩
          exact hK _ hq
        · replace hq := (R.post_if hq).2 hc24
          replace hc24 := eq_false_of_ne_true hc24
          refine condK_f (congrArg V.bool (hc24)) ?_
          refine seq_gen (acall_mono hp) (σ := Bool) (fun s => [(0, .int .i64 x0), (2, .int .u64 0), (3, .int .u64 0), (4, .int .i64 x0), (5, y5_23), (9, .bool x9_23), (13, .bool s), (16, .top)]) (fun s => h) (fun s => (lower_Bounds_j1 x0 s).post KK X) (fun x13_26 hq => ?_) (fun N hN33 => ?_)
          · try dsimp only at hq ⊢
            unfold lower_Bounds_j1 at hq
            rw [wp_cond]
            simp only [go_sem, ↓evs_eq, Nat.reduceAdd, ↓reduceIte, Nat.reduceEqDiff, Nat.reduceBEq, Nat.reduceBNe, Nat.reduceLT, Int.reduceToNat, Int.reduceEq, Int.reduceLT, Int.reduceLE, reduceCtorEq, Nat.reduceMul, Nat.reduceLeDiff, S_api_Node.enc_eq]
            by_cases hc27 : x13_26 = true
            · replace hq := (R.post_if hq).1 hc27
              refine condK_t (congrArg V.bool (hc27)) ?_
              rw [wp_seq]
              refine wp_region_i (by rfl) ?_
              simp only [go_sem, ↓evs_eq, Nat.reduceAdd, ↓reduceIte, Nat.reduceEqDiff, Nat.reduceBEq, Nat.reduceBNe, Nat.reduceLT, Int.reduceToNat, Int.reduceEq, Int.reduceLT, Int.reduceLE, reduceCtorEq, Nat.reduceMul, Nat.reduceLeDiff, S_api_Node.enc_eq]
              rw [wp_ret]
              simp only [retQ, results, resultAll, resultOne, Nat.zero_add, scopeQ, go_sem, ↓evs_eq, Nat.reduceAdd, ↓reduceIte, Nat.reduceEqDiff, Nat.reduceBEq, Nat.reduceBNe, Nat.reduceLT, Int.reduceToNat, Int.reduceEq, Int.reduceLT, Int.reduceLE, reduceCtorEq, Nat.reduceMul, Nat.reduceLeDiff, S_api_Node.enc_eq]
              refine ⟨_, (.refl _), ?_⟩
              exact hK _ hq
            · replace hq := (R.post_if hq).2 hc27
              replace hc27 := eq_false_of_ne_true hc27
              refine condK_f (congrArg V.bool (hc27)) ?_
              refine seq_gen (acall_mono hp) (σ := Bool) (fun s => [(0, .int .i64 x0), (2, .int .u64 0), (3, .int .u64 0), (4, .int .i64 x0), (5, y5_23), (9, .bool x9_23), (13, .bool x13_26), (16, .bool s)]) (fun s => h) (fun s => (lower_Bounds_j0 s).post KK X) (fun x16_29 hq => ?_) (fun N hN31 => ?_)
              · try dsimp only at hq ⊢
                unfold lower_Bounds_j0 at hq
                rw [wp_cond]
                simp only [go_sem, ↓evs_eq, Nat.reduceAdd, ↓reduceIte, Nat.reduceEqDiff, Nat.reduceBEq, Nat.reduceBNe, Nat.reduceLT, Int.reduceToNat, Int.reduceEq, Int.reduceLT, Int.reduceLE, reduceCtorEq, Nat.reduceMul, Nat.reduceLeDiff, S_api_Node.enc_eq]
                by_cases hc30 : x16_29 = true
                · replace hq := (R.post_if hq).1 hc30
                  refine condK_t (congrArg V.bool (hc30)) ?_
                  rw [wp_seq]
                  refine wp_region_i (by rfl) ?_
                  simp only [go_sem, ↓evs_eq, Nat.reduceAdd, ↓reduceIte, Nat.reduceEqDiff, Nat.reduceBEq, Nat.reduceBNe, Nat.reduceLT, Int.reduceToNat, Int.reduceEq, Int.reduceLT, Int.reduceLE, reduceCtorEq, Nat.reduceMul, Nat.reduceLeDiff, S_api_Node.enc_eq]
                  rw [wp_ret]
                  simp only [retQ, results, resultAll, resultOne, Nat.zero_add, scopeQ, go_sem, ↓evs_eq, Nat.reduceAdd, ↓reduceIte, Nat.reduceEqDiff, Nat.reduceBEq, Nat.reduceBNe, Nat.reduceLT, Int.reduceToNat, Int.reduceEq, Int.reduceLT, Int.reduceLE, reduceCtorEq, Nat.reduceMul, Nat.reduceLeDiff, S_api_Node.enc_eq]
                  refine ⟨_, (.refl _), ?_⟩
                  exact hK _ hq
                · replace hq := (R.post_if hq).2 hc30
                  replace hc30 := eq_false_of_ne_true hc30
                  refine condK_f (congrArg V.bool (hc30)) ?_
                  try simp only [wp_skip, RC]
                  refine Wk.same ?_
                  try simp only [RC]
                  refine Wk.same ?_
                  try simp only [RC]
                  refine Wk.same ?_
                  try simp only [RC]
                  refine Wk.same ?_
                  try simp only [RC]
                  refine Wk.same ?_
                  try simp only [RC]
                  rw [wp_seq]
                  refine wp_region_i (by rfl) ?_
                  simp only [go_sem, ↓evs_eq, Nat.reduceAdd, ↓reduceIte, Nat.reduceEqDiff, Nat.reduceBEq, Nat.reduceBNe, Nat.reduceLT, Int.reduceToNat, Int.reduceEq, Int.reduceLT, Int.reduceLE, reduceCtorEq, Nat.reduceMul, Nat.reduceLeDiff, S_api_Node.enc_eq]
                  rw [wp_ret]
                  simp only [retQ, results, resultAll, resultOne, Nat.zero_add, scopeQ, go_sem, ↓evs_eq, Nat.reduceAdd, ↓reduceIte, Nat.reduceEqDiff, Nat.reduceBEq, Nat.reduceBNe, Nat.reduceLT, Int.reduceToNat, Int.reduceEq, Int.reduceLT, Int.reduceLE, reduceCtorEq, Nat.reduceMul, Nat.reduceLeDiff, S_api_Node.enc_eq]
                  refine ⟨_, (.refl _), ?_⟩
                  exact hK _ hq
              · rw [wp_seq]
                refine wp_region_i (by rfl) ?_
                simp only [go_sem, ↓evs_eq, Nat.reduceAdd, ↓reduceIte, Nat.reduceEqDiff, Nat.reduceBEq, Nat.reduceBNe, Nat.reduceLT, Int.reduceToNat, Int.reduceEq, Int.reduceLT, Int.reduceLE, reduceCtorEq, Nat.reduceMul, Nat.reduceLeDiff, S_api_Node.enc_eq]
                rw [wp_cond]
                simp only [go_sem, ↓evs_eq, Nat.reduceAdd, ↓reduceIte, Nat.reduceEqDiff, Nat.reduceBEq, Nat.reduceBNe, Nat.reduceLT, Int.reduceToNat, Int.reduceEq, Int.reduceLT, Int.reduceLE, reduceCtorEq, Nat.reduceMul, Nat.reduceLeDiff, S_api_Node.enc_eq]
                by_cases hc32 : x0 = 4
                · replace hq := (R.post_if hq).1 hc32
                  refine condK_t (congrArg V.bool (decide_eq_true hc32)) ?_
                  try simp only [wp_skip, RC]
                  refine Wk.same ?_
                  try simp only [RC]
                  exact hN31 (decide (x0 = 4)) hq
                · replace hq := (R.post_if hq).2 hc32
                  refine condK_f (congrArg V.bool (decide_eq_false hc32)) ?_
                  refine wp_region_i (by rfl) ?_
                  simp only [go_sem, ↓evs_eq, Nat.reduceAdd, ↓reduceIte, Nat.reduceEqDiff, Nat.reduceBEq, Nat.reduceBNe, Nat.reduceLT, Int.reduceToNat, Int.reduceEq, Int.reduceLT, Int.reduceLE, reduceCtorEq, Nat.reduceMul, Nat.reduceLeDiff, S_api_Node.enc_eq]
                  refine Wk.same ?_
                  try simp only [RC]
                  exact hN31 (decide (x0 = 6)) hq
          · rw [wp_seq]
            refine wp_region_i (by rfl) ?_
            simp only [go_sem, ↓evs_eq, Nat.reduceAdd, ↓reduceIte, Nat.reduceEqDiff, Nat.reduceBEq, Nat.reduceBNe, Nat.reduceLT, Int.reduceToNat, Int.reduceEq, Int.reduceLT, Int.reduceLE, reduceCtorEq, Nat.reduceMul, Nat.reduceLeDiff, S_api_Node.enc_eq]
            rw [wp_cond]
            simp only [go_sem, ↓evs_eq, Nat.reduceAdd, ↓reduceIte, Nat.reduceEqDiff, Nat.reduceBEq, Nat.reduceBNe, Nat.reduceLT, Int.reduceToNat, Int.reduceEq, Int.reduceLT, Int.reduceLE, reduceCtorEq, Nat.reduceMul, Nat.reduceLeDiff, S_api_Node.enc_eq]
            by_cases hc34 : x0 = 13
            · replace hq := (R.post_if hq).1 hc34
              refine condK_t (congrArg V.bool (decide_eq_true hc34)) ?_
              try simp only [wp_skip, RC]
              refine Wk.same ?_
              try simp only [RC]
              exact hN33 (decide (x0 = 13)) hq
            · replace hq := (R.post_if hq).2 hc34
              refine condK_f (congrArg V.bool (decide_eq_false hc34)) ?_
              refine wp_region_i (by rfl) ?_
              simp only [go_sem, ↓evs_eq, Nat.reduceAdd, ↓reduceIte, Nat.reduceEqDiff, Nat.reduceBEq, Nat.reduceBNe, Nat.reduceLT, Int.reduceToNat, Int.reduceEq, Int.reduceLT, Int.reduceLE, reduceCtorEq, Nat.reduceMul, Nat.reduceLeDiff, S_api_Node.enc_eq]
              refine Wk.same ?_
              try simp only [RC]
              exact hN33 (decide (x0 = 7)) hq
      · rw [wp_seq]
        refine wp_region_i (by rfl) ?_
        simp only [go_sem, ↓evs_eq, Nat.reduceAdd, ↓reduceIte, Nat.reduceEqDiff, Nat.reduceBEq, Nat.reduceBNe, Nat.reduceLT, Int.reduceToNat, Int.reduceEq, Int.reduceLT, Int.reduceLE, reduceCtorEq, Nat.reduceMul, Nat.reduceLeDiff, S_api_Node.enc_eq]
        rw [wp_cond]
        simp only [go_sem, ↓evs_eq, Nat.reduceAdd, ↓reduceIte, Nat.reduceEqDiff, Nat.reduceBEq, Nat.reduceBNe, Nat.reduceLT, Int.reduceToNat, Int.reduceEq, Int.reduceLT, Int.reduceLE, reduceCtorEq, Nat.reduceMul, Nat.reduceLeDiff, S_api_Node.enc_eq]
        by_cases hc36 : x0 = 3
        · replace hq := (R.post_if hq).1 hc36
          refine condK_t (congrArg V.bool (decide_eq_true hc36)) ?_
          try simp only [wp_skip, RC]
          refine Wk.le (EnvLe.cons (.refl _) (EnvLe.cons (.refl _) (EnvLe.cons (.refl _) (EnvLe.cons (.refl _) (EnvLe.cons (.top _) (EnvLe.cons (.refl _) (EnvLe.cons (.refl _) (EnvLe.cons (.refl _) EnvLe.nil)))))))) ?_
          try simp only [RC]
          exact hN35 (_, (decide (x0 = 3))) hq
        · replace hq := (R.post_if hq).2 hc36
          refine condK_f (congrArg V.bool (decide_eq_false hc36)) ?_
          rw [wp_seq]
          refine wp_region_i (by rfl) ?_
          simp only [go_sem, ↓evs_eq, Nat.reduceAdd, ↓reduceIte, Nat.reduceEqDiff, Nat.reduceBEq, Nat.reduceBNe, Nat.reduceLT, Int.reduceToNat, Int.reduceEq, Int.reduceLT, Int.reduceLE, reduceCtorEq, Nat.reduceMul, Nat.reduceLeDiff, S_api_Node.enc_eq]
          rw [wp_cond]
          simp only [go_sem, ↓evs_eq, Nat.reduceAdd, ↓reduceIte, Nat.reduceEqDiff, Nat.reduceBEq, Nat.reduceBNe, Nat.reduceLT, Int.reduceToNat, Int.reduceEq, Int.reduceLT, Int.reduceLE, reduceCtorEq, Nat.reduceMul, Nat.reduceLeDiff, S_api_Node.enc_eq]
          by_cases hc37 : x0 = 18
          · replace hq := (R.post_if hq).1 hc37
            refine condK_t (congrArg V.bool (decide_eq_true hc37)) ?_
            try simp only [wp_skip, RC]
            refine Wk.le (EnvLe.cons (.refl _) (EnvLe.cons (.refl _) (EnvLe.cons (.refl _) (EnvLe.cons (.refl _) (EnvLe.cons (.top _) (EnvLe.cons (.refl _) (EnvLe.cons (.refl _) (EnvLe.cons (.refl _) EnvLe.nil)))))))) ?_
            try simp only [RC]
            refine Wk.same ?_
            try simp only [RC]
            exact hN35 (_, (decide (x0 = 18))) hq
          · replace hq := (R.post_if hq).2 hc37
            refine condK_f (congrArg V.bool (decide_eq_false hc37)) ?_
            refine wp_region_i (by rfl) ?_
            simp only [go_sem, ↓evs_eq, Nat.reduceAdd, ↓reduceIte, Nat.reduceEqDiff, Nat.reduceBEq, Nat.reduceBNe, Nat.reduceLT, Int.reduceToNat, Int.reduceEq, Int.reduceLT, Int.reduceLE, reduceCtorEq, Nat.reduceMul, Nat.reduceLeDiff, S_api_Node.enc_eq]
            refine Wk.le (EnvLe.cons (.refl _) (EnvLe.cons (.refl _) (EnvLe.cons (.refl _) (EnvLe.cons (.refl _) (EnvLe.cons (.top _) (EnvLe.cons (.refl _) (EnvLe.cons (.refl _) (EnvLe.cons (.refl _) EnvLe.nil)))))))) ?_
            try simp only [RC]
            refine Wk.same ?_
            try simp only [RC]
            exact hN35 (_, (decide (x0 = 16))) hq
  · rw [wp_seq]
    refine wp_region_i (by rfl) ?_
    simp only [go_sem, ↓evs_eq, Nat.reduceAdd, ↓reduceIte, Nat.reduceEqDiff, Nat.reduceBEq, Nat.reduceBNe, Nat.reduceLT, Int.reduceToNat, Int.reduceEq, Int.reduceLT, Int.reduceLE, reduceCtorEq, Nat.reduceMul, Nat.reduceLeDiff, S_api_Node.enc_eq]
    rw [wp_cond]
    simp only [go_sem, ↓evs_eq, Nat.reduceAdd, ↓reduceIte, Nat.reduceEqDiff, Nat.reduceBEq, Nat.reduceBNe, Nat.reduceLT, Int.reduceToNat, Int.reduceEq, Int.reduceLT, Int.reduceLE, reduceCtorEq, Nat.reduceMul, Nat.reduceLeDiff, S_api_Node.enc_eq]
    by_cases hc39 : x0 = 5
    · replace hq := (R.post_if hq).1 hc39
      refine condK_t (congrArg V.bool (decide_eq_true hc39)) ?_
      try simp only [wp_skip, RC]
      refine Wk.same ?_
      try simp only [RC]
      exact hN38 (decide (x0 = 5)) hq
    · replace hq := (R.post_if hq).2 hc39
      refine condK_f (congrArg V.bool (decide_eq_false hc39)) ?_
      rw [wp_seq]
      refine wp_region_i (by rfl) ?_
      simp only [go_sem, ↓evs_eq, Nat.reduceAdd, ↓reduceIte, Nat.reduceEqDiff, Nat.reduceBEq, Nat.reduceBNe, Nat.reduceLT, Int.reduceToNat, Int.reduceEq, Int.reduceLT, Int.reduceLE, reduceCtorEq, Nat.reduceMul, Nat.reduceLeDiff, S_api_Node.enc_eq]
      rw [wp_cond]
      simp only [go_sem, ↓evs_eq, Nat.reduceAdd, ↓reduceIte, Nat.reduceEqDiff, Nat.reduceBEq, Nat.reduceBNe, Nat.reduceLT, Int.reduceToNat, Int.reduceEq, Int.reduceLT, Int.reduceLE, reduceCtorEq, Nat.reduceMul, Nat.reduceLeDiff, S_api_Node.enc_eq]
      by_cases hc40 : x0 = 17
      · replace hq := (R.post_if hq).1 hc40
        refine condK_t (congrArg V.bool (decide_eq_true hc40)) ?_
        try simp only [wp_skip, RC]
        refine Wk.same ?_
        try simp only [RC]
        refine Wk.same ?_
        try simp only [RC]
        exact hN38 (decide (x0 = 17)) hq
      · replace hq := (R.post_if hq).2 hc40
        refine condK_f (congrArg V.bool (decide_eq_false hc40)) ?_
        refine wp_region_i (by rfl) ?_
        simp only [go_sem, ↓evs_eq, Nat.reduceAdd, ↓reduceIte, Nat.reduceEqDiff, Nat.reduceBEq, Nat.reduceBNe, Nat.reduceLT, Int.reduceToNat, Int.reduceEq, Int.reduceLT, Int.reduceLE, reduceCtorEq, Nat.reduceMul, Nat.reduceLeDiff, S_api_Node.enc_eq]
        refine Wk.same ?_
        try simp only [RC]
        refine Wk.same ?_
        try simp only [RC]
        exact hN38 (decide (x0 = 15)) hq

def stringslite_HasPrefix (x0 : List UInt8) (x1 : List UInt8) : R (Bool) :=
  (if (List.length x1 : Int) ≤ (List.length x0 : Int) then (if 0 ≤ (List.length x1 : Int) ∧ (List.length x1 : Int) ≤ (List.length x0 : Int) then (R.ok (decide ((List.take (Int.toNat (List.length x1 : Int)) x0) = x1))) else R.stuck) else (R.ok false)).bind fun x4m3 => R.ok x4m3
theorem stringslite_HasPrefix_call {h : H} {x0 : List UInt8} {x1 : List UInt8} {Q : Out → H → Prop} {KK : (Bool) → Prop} {X : V → Prop} (hq : (stringslite_HasPrefix x0 x1).post KK X) (hK : ∀ r, KK r → Q (.ret (.bool r)) h) (hX : ∀ v, X v → V.Cl 0 v ∧ Q (.panic v) h) : CA qprim 103 [.str x0, .str x1] h Q := by
  refine acalln hp Tryz.func103 rfl (by kernel_rfl) (n := 18) rfl (rs := [.tmp 4]) rfl [0, 1, 4] [] false (by simp) ?_
  unfold stringslite_HasPrefix at hq
  simp only [initEnv, List.map_cons, List.map_nil, List.getD_cons_zero, List.getD_cons_succ, List.getD_nil, V.demote]
  rw [wp_seq]
  refine wp_region_i (by rfl) ?_
  simp only [go_sem, ↓evs_eq, Nat.reduceAdd, ↓reduceIte, Nat.reduceEqDiff, Nat.reduceBEq, Nat.reduceBNe, Nat.reduceLT, Int.reduceToNat, Int.reduceEq, Int.reduceLT, Int.reduceLE, reduceCtorEq, Nat.reduceMul, Nat.reduceLeDiff, S_api_Node.enc_eq]
  obtain ⟨K4, hK5, hq⟩ := R.post_cut hq
  refine seq_gen (acall_mono hp) (σ := Bool) (fun s => [(0, .str x0), (1, .str x1), (4, .bool s)]) (fun s => h) (fun s => K4 s) (fun x4m3 hq => ?_) (fun N hN6 => ?_)
  · replace hq := hK5 _ hq
    try dsimp only at hq ⊢
    rw [wp_ret]
    simp only [retQ, results, resultAll, resultOne, Nat.zero_add, scopeQ, go_sem, ↓evs_eq, Nat.reduceAdd, ↓reduceIte, Nat.reduceEqDiff, Nat.reduceBEq, Nat.reduceBNe, Nat.reduceLT, Int.reduceToNat, Int.reduceEq, Int.reduceLT, Int.reduceLE, reduceCtorEq, Nat.reduceMul, Nat.reduceLeDiff, S_api_Node.enc_eq]
    refine ⟨_, (.refl _), ?_⟩
    exact hK _ hq
  · refine wp_region_i (by rfl) ?_
    simp only [go_sem, ↓evs_eq, Nat.reduceAdd, ↓reduceIte, Nat.reduceEqDiff, Nat.reduceBEq, Nat.reduceBNe, Nat.reduceLT, Int.reduceToNat, Int.reduceEq, Int.reduceLT, Int.reduceLE, reduceCtorEq, Nat.reduceMul, Nat.reduceLeDiff, S_api_Node.enc_eq]
    by_cases hc7 : (List.length x1 : Int) ≤ (List.length x0 : Int)
    · replace hq := (R.post_if hq).1 hc7
      obtain ⟨g8, hq⟩ := R.guard hq
      simp only [decide_eq_true hc7, go_sem, ↓evs_eq, Nat.reduceAdd, ↓reduceIte, Nat.reduceEqDiff, Nat.reduceBEq, Nat.reduceBNe, Nat.reduceLT, Int.reduceToNat, Int.reduceEq, Int.reduceLT, Int.reduceLE, reduceCtorEq, Nat.reduceMul, Nat.reduceLeDiff, S_api_Node.enc_eq]
      repeat (with_reducible refine And.intro (by first | omega | assumption) ?_)
      exact hN6 (decide ((List.take (Int.toNat (List.length x1 : Int)) x0) = x1)) hq
    · replace hq := (R.post_if hq).2 hc7
      simp only [decide_eq_false hc7, go_sem, ↓evs_eq, Nat.reduceAdd, ↓reduceIte, Nat.reduceEqDiff, Nat.reduceBEq, Nat.reduceBNe, Nat.reduceLT, Int.reduceToNat, Int.reduceEq, Int.reduceLT, Int.reduceLE, reduceCtorEq, Nat.reduceMul, Nat.reduceLeDiff, S_api_Node.enc_eq]
      exact hN6 false hq

def stringslite_CutPrefix (x0 : List UInt8) (x1 : List UInt8) : R ((List UInt8) × Bool) :=
  (stringslite_HasPrefix x0 x1).bind fun r11 => if r11 = true then (if 0 ≤ (List.length x1 : Int) ∧ (List.length x1 : Int) ≤ (List.length x0 : Int) then (R.ok ((List.drop (Int.toNat (List.length x1 : Int)) x0), true)) else R.stuck) else (R.ok (x0, false))
theorem stringslite_CutPrefix_call {h : H} {x0 : List UInt8} {x1 : List UInt8} {Q : Out → H → Prop} {KK : ((List UInt8) × Bool) → Prop} {X : V → Prop} (hq : (stringslite_CutPrefix x0 x1).post KK X) (hK : ∀ r, KK r → Q (.ret (.tup [.str r.1, .bool r.2])) h) (hX : ∀ v, X v → V.Cl 0 v ∧ Q (.panic v) h) : CA qprim 80 [.str x0, .str x1] h Q := by
  refine acalln hp Tryz.func80 rfl (by kernel_rfl) (n := 15) rfl (rs := [.tmp 4, .tmp 5]) rfl [0, 1, 4, 5, 9] [] false (by simp) ?_
  unfold stringslite_CutPrefix at hq
  simp only [initEnv, List.map_cons, List.map_nil, List.getD_cons_zero, List.getD_cons_succ, List.getD_nil, V.demote]
  rw [wp_seq]
  refine wp_region_i (by rfl) ?_
  simp only [go_sem, ↓evs_eq, Nat.reduceAdd, ↓reduceIte, Nat.reduceEqDiff, Nat.reduceBEq, Nat.reduceBNe, Nat.reduceLT, Int.reduceToNat, Int.reduceEq, Int.reduceLT, Int.reduceLE, reduceCtorEq, Nat.reduceMul, Nat.reduceLeDiff, S_api_Node.enc_eq]
  rw [wp_seq]
  rw [wp_seq]
  refine wp_region_i (by rfl) ?_
  simp only [go_sem, ↓evs_eq, Nat.reduceAdd, ↓reduceIte, Nat.reduceEqDiff, Nat.reduceBEq, Nat.reduceBNe, Nat.reduceLT, Int.reduceToNat, Int.reduceEq, Int.reduceLT, Int.reduceLE, reduceCtorEq, Nat.reduceMul, Nat.reduceLeDiff, S_api_Node.enc_eq]
  obtain ⟨K15, hK16, hq⟩ := R.post_cut hq
  refine stringslite_HasPrefix_call (x0 := x0) (x1 := x1) hq (fun r11 hq => ?_) (fun v hv => ⟨(hX v hv).1, ?_⟩)
  · replace hq := hK16 _ hq
    simp only [go_sem, ↓evs_eq, Nat.reduceAdd, ↓reduceIte, Nat.reduceEqDiff, Nat.reduceBEq, Nat.reduceBNe, Nat.reduceLT, Int.reduceToNat, Int.reduceEq, Int.reduceLT, Int.reduceLE, reduceCtorEq, Nat.reduceMul, Nat.reduceLeDiff, S_api_Node.enc_eq]
    rw [wp_cond]
    simp only [go_sem, ↓evs_eq, Nat.reduceAdd, ↓reduceIte, Nat.reduceEqDiff, Nat.reduceBEq, Nat.reduceBNe, Nat.reduceLT, Int.reduceToNat, Int.reduceEq, Int.reduceLT, Int.reduceLE, reduceCtorEq, Nat.reduceMul, Nat.reduceLeDiff, S_api_Node.enc_eq]
    by_cases hc12 : r11 = true
    · replace hq := (R.post_if hq).1 hc12
      refine condK_f (congrArg (fun b => V.bool (!b)) (hc12)) ?_
      try simp only [wp_skip, RC]
      refine Wk.same ?_
      try simp only [RC]
      rw [wp_seq]
      refine wp_region_i (by rfl) ?_
      obtain ⟨g14, hq⟩ := R.guard hq
      simp only [go_sem, ↓evs_eq, Nat.reduceAdd, ↓reduceIte, Nat.reduceEqDiff, Nat.reduceBEq, Nat.reduceBNe, Nat.reduceLT, Int.reduceToNat, Int.reduceEq, Int.reduceLT, Int.reduceLE, reduceCtorEq, Nat.reduceMul, Nat.reduceLeDiff, S_api_Node.enc_eq]
      repeat (with_reducible refine And.intro (by first | omega | assumption) ?_)
      rw [wp_ret]
      simp only [retQ, results, resultAll, resultOne, Nat.zero_add, scopeQ, go_sem, ↓evs_eq, Nat.reduceAdd, ↓reduceIte, Nat.reduceEqDiff, Nat.reduceBEq, Nat.reduceBNe, Nat.reduceLT, Int.reduceToNat, Int.reduceEq, Int.reduceLT, Int.reduceLE, reduceCtorEq, Nat.reduceMul, Nat.reduceLeDiff, S_api_Node.enc_eq]
      refine ⟨_, (.refl _), ?_⟩
      exact hK _ hq
    · replace hq := (R.post_if hq).2 hc12
      replace hc12 := eq_false_of_ne_true hc12
      refine condK_t (congrArg (fun b => V.bool (!b)) (hc12)) ?_
      rw [wp_seq]
      refine wp_region_i (by rfl) ?_
      simp only [go_sem, ↓evs_eq, Nat.reduceAdd, ↓reduceIte, Nat.reduceEqDiff, Nat.reduceBEq, Nat.reduceBNe, Nat.reduceLT, Int.reduceToNat, Int.reduceEq, Int.reduceLT, Int.reduceLE, reduceCtorEq, Nat.reduceMul, Nat.reduceLeDiff, S_api_Node.enc_eq]
      rw [wp_ret]
      simp only [retQ, results, resultAll, resultOne, Nat.zero_add, scopeQ, go_sem, ↓evs_eq, Nat.reduceAdd, ↓reduceIte, Nat.reduceEqDiff, Nat.reduceBEq, Nat.reduceBNe, Nat.reduceLT, Int.reduceToNat, Int.reduceEq, Int.reduceLT, Int.reduceLE, reduceCtorEq, Nat.reduceMul, Nat.reduceLeDiff, S_api_Node.enc_eq]
      refine ⟨_, (.refl _), ?_⟩
      exact hK _ hq
  · simp only [RC, scopeQ, retQ, ↓reduceIte, Bool.false_eq_true]
    exact (hX _ hv).2

def strings_CutPrefix (x0 : List UInt8) (x1 : List UInt8) : R ((List UInt8) × Bool) :=
  (stringslite_CutPrefix x0 x1).bind fun r4 => R.ok (r4.1, r4.2)
theorem strings_CutPrefix_call {h : H} {x0 : List UInt8} {x1 : List UInt8} {Q : Out → H → Prop} {KK : ((List UInt8) × Bool) → Prop} {X : V → Prop} (hq : (strings_CutPrefix x0 x1).post KK X) (hK : ∀ r, KK r → Q (.ret (.tup [.str r.1, .bool r.2])) h) (hX : ∀ v, X v → V.Cl 0 v ∧ Q (.panic v) h) : CA qprim 52 [.str x0, .str x1] h Q := by
  refine acalln hp Tryz.func52 rfl (by kernel_rfl) (n := 11) rfl (rs := [.tmp 4, .tmp 5]) rfl [0, 1, 4, 5] [] false (by simp) ?_
  unfold strings_CutPrefix at hq
  simp only [initEnv, List.map_cons, List.map_nil, List.getD_cons_zero, List.getD_cons_succ, List.getD_nil, V.demote]
  rw [wp_seq]
  refine wp_region_i (by rfl) ?_
  simp only [go_sem, ↓evs_eq, Nat.reduceAdd, ↓reduceIte, Nat.reduceEqDiff, Nat.reduceBEq, Nat.reduceBNe, Nat.reduceLT, Int.reduceToNat, Int.reduceEq, Int.reduceLT, Int.reduceLE, reduceCtorEq, Nat.reduceMul, Nat.reduceLeDiff, S_api_Node.enc_eq]
  rw [wp_seq]
  refine wp_region_i (by rfl) ?_
  simp only [go_sem, ↓evs_eq, Nat.reduceAdd, ↓reduceIte, Nat.reduceEqDiff, Nat.reduceBEq, Nat.reduceBNe, Nat.reduceLT, Int.reduceToNat, Int.reduceEq, Int.reduceLT, Int.reduceLE, reduceCtorEq, Nat.reduceMul, Nat.reduceLeDiff, S_api_Node.enc_eq]
  obtain ⟨K5, hK6, hq⟩ := R.post_cut hq
  refine stringslite_CutPrefix_call (x0 := x0) (x1 := x1) hq (fun r4 hq => ?_) (fun v hv => ⟨(hX v hv).1, ?_⟩)
  · replace hq := hK6 _ hq
    simp only [go_sem, ↓evs_eq, Nat.reduceAdd, ↓reduceIte, Nat.reduceEqDiff, Nat.reduceBEq, Nat.reduceBNe, Nat.reduceLT, Int.reduceToNat, Int.reduceEq, Int.reduceLT, Int.reduceLE, reduceCtorEq, Nat.reduceMul, Nat.reduceLeDiff, S_api_Node.enc_eq]
    rw [wp_ret]
    simp only [retQ, results, resultAll, resultOne, Nat.zero_add, scopeQ, go_sem, ↓evs_eq, Nat.reduceAdd, ↓reduceIte, Nat.reduceEqDiff, Nat.reduceBEq, Nat.reduceBNe, Nat.reduceLT, Int.reduceToNat, Int.reduceEq, Int.reduceLT, Int.reduceLE, reduceCtorEq, Nat.reduceMul, Nat.reduceLeDiff, S_api_Node.enc_eq]
    refine ⟨_, (.refl _), ?_⟩
    exact hK _ hq
  · simp only [RC, scopeQ, retQ, ↓reduceIte, Bool.false_eq_true]
    exact (hX _ hv).2

def quote_worth (x0 : UInt8) : R (Int) :=
  (if (48 : Int) ≤ (x0.toNat : Int) then (R.ok (decide ((x0.toNat : Int) ≤ 57))) else (R.ok false)).bind fun x3m17 => if x3m17 = true then (R.ok (IntKind.wrap .i64 ((u8 (IntKind.wrap .u8 ((x0.toNat : Int) - 48))).toNat : Int))) else ((if (97 : Int) ≤ (x0.toNat : Int) then (R.ok (decide ((x0.toNat : Int) ≤ 102))) else (R.ok false)).bind fun x13m26 => if x13m26 = true then (R.ok (IntKind.wrap .i64 ((IntKind.wrap .i64 ((u8 (IntKind.wrap .u8 ((x0.toNat : Int) - 97))).toNat : Int)) + 10))) else ((if (65 : Int) ≤ (x0.toNat : Int) then (R.ok (decide ((x0.toNat : Int) ≤ 70))) else (R.ok false)).bind fun x24m35 => if x24m35 = true then (R.ok (IntKind.wrap .i64 ((IntKind.wrap .i64 ((u8 (IntKind.wrap .u8 ((x0.toNat : Int) - 65))).toNat : Int)) + 10))) else (R.ok 16)))
theorem quote_worth_call {h : H} {x0 : UInt8} {Q : Out → H → Prop} {KK : (Int) → Prop} {X : V → Prop} (hq : (quote_worth x0).post KK X) (hK : ∀ r, KK r → Q (.ret (.int .i64 r)) h) (hX : ∀ v, X v → V.Cl 0 v ∧ Q (.panic v) h) : CA qprim 81 [.int .u8 (x0.toNat : Int)] h Q := by
  refine acalln hp Tryz.func81 rfl (by kernel_rfl) (n := 35) rfl (rs := [.tmp 2]) rfl [0, 2, 3, 13, 24] [] false (by simp) ?_
  unfold quote_worth at hq
  simp only [initEnv, List.map_cons, List.map_nil, List.getD_cons_zero, List.getD_cons_succ, List.getD_nil, V.demote]
  rw [wp_seq]
  refine wp_region_i (by rfl) ?_
  simp only [go_sem, ↓evs_eq, Nat.reduceAdd, ↓reduceIte, Nat.reduceEqDiff, Nat.reduceBEq, Nat.reduceBNe, Nat.reduceLT, Int.reduceToNat, Int.reduceEq, Int.reduceLT, Int.reduceLE, reduceCtorEq, Nat.reduceMul, Nat.reduceLeDiff, S_api_Node.enc_eq]
  rw [wp_seq]
  rw [wp_block]
  obtain ⟨K18, hK19, hq⟩ := R.post_cut hq
  refine seq_gen (acall_mono hp) (σ := Bool) (fun s => [(0, .int .u8 (x0.toNat : Int)), (2, .int .i64 0), (3, .bool s), (13, .top), (24, .top)]) (fun s => h) (fun s => K18 s) (fun x3m17 hq => ?_) (fun N hN20 => ?_)
  · replace hq := hK19 _ hq
    try dsimp only at hq ⊢
    rw [wp_cond]
    simp only [go_sem, ↓evs_eq, Nat.reduceAdd, ↓reduceIte, Nat.reduceEqDiff, Nat.reduceBEq, Nat.reduceBNe, Nat.reduceLT, Int.reduceToNat, Int.reduceEq, Int.reduceLT, Int.reduceLE, reduceCtorEq, Nat.reduceMul, Nat.reduceLeDiff, S_api_Node.enc_eq]
    by_cases hc22 : x3m17 = true
    · replace hq := (R.post_if hq).1 hc22
      refine condK_t (congrArg V.bool (hc22)) ?_
      rw [wp_seq]
      refine wp_region_i (by rfl) ?_
      have e24 := u8_fix (n := (IntKind.wrap .u8 ((x0.toNat : Int) - 48))) (wrap_u8 _)
      simp only [e24, go_sem, ↓evs_eq, Nat.reduceAdd, ↓reduceIte, Nat.reduceEqDiff, Nat.reduceBEq, Nat.reduceBNe, Nat.reduceLT, Int.reduceToNat, Int.reduceEq, Int.reduceLT, Int.reduceLE, reduceCtorEq, Nat.reduceMul, Nat.reduceLeDiff, S_api_Node.enc_eq]
      rw [wp_ret]
      simp only [retQ, results, resultAll, resultOne, Nat.zero_add, scopeQ, go_sem, ↓evs_eq, Nat.reduceAdd, ↓reduceIte, Nat.reduceEqDiff, Nat.reduceBEq, Nat.reduceBNe, Nat.reduceLT, Int.reduceToNat, Int.reduceEq, Int.reduceLT, Int.reduceLE, reduceCtorEq, Nat.reduceMul, Nat.reduceLeDiff, S_api_Node.enc_eq]
      refine ⟨_, (.refl _), ?_⟩
      exact hK _ hq
    · replace hq := (R.post_if hq).2 hc22
      replace hc22 := eq_false_of_ne_true hc22
      refine condK_f (congrArg V.bool (hc22)) ?_
      obtain ⟨K27, hK28, hq⟩ := R.post_cut hq
      refine seq_gen (acall_mono hp) (σ := Bool) (fun s => [(0, .int .u8 (x0.toNat : Int)), (2, .int .i64 0), (3, .bool x3m17), (13, .bool s), (24, .top)]) (fun s => h) (fun s => K27 s) (fun x13m26 hq => ?_) (fun N hN29 => ?_)
      · replace hq := hK28 _ hq
        try dsimp only at hq ⊢
        rw [wp_cond]
        simp only [go_sem, ↓evs_eq, Nat.reduceAdd, ↓reduceIte, Nat.reduceEqDiff, Nat.reduceBEq, Nat.reduceBNe, Nat.reduceLT, Int.reduceToNat, Int.reduceEq, Int.reduceLT, Int.reduceLE, reduceCtorEq, Nat.reduceMul, Nat.reduceLeDiff, S_api_Node.enc_eq]
        by_cases hc31 : x13m26 = true
        · replace hq := (R.post_if hq).1 hc31
          refine condK_t (congrArg V.bool (hc31)) ?_
          rw [wp_seq]
          refine wp_region_i (by rfl) ?_
          have e33 := u8_fix (n := (IntKind.wrap .u8 ((x0.toNat : Int) - 97))) (wrap_u8 _)
          simp only [e33, go_sem, ↓evs_eq, Nat.reduceAdd, ↓reduceIte, Nat.reduceEqDiff, Nat.reduceBEq, Nat.reduceBNe, Nat.reduceLT, Int.reduceToNat, Int.reduceEq, Int.reduceLT, Int.reduceLE, reduceCtorEq, Nat.reduceMul, Nat.reduceLeDiff, S_api_Node.enc_eq]
          rw [wp_ret]
          simp only [retQ, results, resultAll, resultOne, Nat.zero_add, scopeQ, go_sem, ↓evs_eq, Nat.reduceAdd, ↓reduceIte, Nat.reduceEqDiff, Nat.reduceBEq, Nat.reduceBNe, Nat.reduceLT, Int.reduceToNat, Int.reduceEq, Int.reduceLT, Int.reduceLE, reduceCtorEq, Nat.reduceMul, Nat.reduceLeDiff, S_api_Node.enc_eq]
          refine ⟨_, (.refl _), ?_⟩
          exact hK _ hq
        · replace hq := (R.post_if hq).2 hc31
          replace hc31 := eq_false_of_ne_true hc31
          refine condK_f (congrArg V.bool (hc31)) ?_
          obtain ⟨K36, hK37, hq⟩ := R.post_cut hq
          refine seq_gen (acall_mono hp) (σ := Bool) (fun s => [(0, .int .u8 (x0.toNat : Int)), (2, .int .i64 0), (3, .bool x3m17), (13, .bool x13m26), (24, .bool s)]) (fun s => h) (fun s => K36 s) (fun x24m35 hq => ?_) (fun N hN38 => ?_)
          · replace hq := hK37 _ hq
            try dsimp only at hq ⊢
            rw [wp_cond]
            simp only [go_sem, ↓evs_eq, Nat.reduceAdd, ↓reduceIte, Nat.reduceEqDiff, Nat.reduceBEq, Nat.reduceBNe, Nat.reduceLT, Int.reduceToNat, Int.reduceEq, Int.reduceLT, Int.reduceLE, reduceCtorEq, Nat.reduceMul, Nat.reduceLeDiff, S_api_Node.enc_eq]
            by_cases hc40 : x24m35 = true
            · replace hq := (R.post_if hq).1 hc40
              refine condK_t (congrArg V.bool (hc40)) ?_
              rw [wp_seq]
              refine wp_region_i (by rfl) ?_
              have e42 := u8_fix (n := (IntKind.wrap .u8 ((x0.toNat : Int) - 65))) (wrap_u8 _)
              simp only [e42, go_sem, ↓evs_eq, Nat.reduceAdd, ↓reduceIte, Nat.reduceEqDiff, Nat.reduceBEq, Nat.reduceBNe, Nat.reduceLT, Int.reduceToNat, Int.reduceEq, Int.reduceLT, Int.reduceLE, reduceCtorEq, Nat.reduceMul, Nat.reduceLeDiff, S_api_Node.enc_eq]
              rw [wp_ret]
              simp only [retQ, results, resultAll, resultOne, Nat.zero_add, scopeQ, go_sem, ↓evs_eq, Nat.reduceAdd, ↓reduceIte, Nat.reduceEqDiff, Nat.reduceBEq, Nat.reduceBNe, Nat.reduceLT, Int.reduceToNat, Int.reduceEq, Int.reduceLT, Int.reduceLE, reduceCtorEq, Nat.reduceMul, Nat.reduceLeDiff, S_api_Node.enc_eq]
              refine ⟨_, (.refl _), ?_⟩
              exact hK _ hq
            · replace hq := (R.post_if hq).2 hc40
              replace hc40 := eq_false_of_ne_true hc40
              refine condK_f (congrArg V.bool (hc40)) ?_
              try simp only [wp_skip, RC]
              refine Wk.same ?_
              try simp only [RC]
              refine Wk.same ?_
              try simp only [RC]
              refine Wk.same ?_
              try simp only [RC]
              refine Wk.same ?_
              try simp only [RC]
              rw [wp_seq]
              refine wp_region_i (by rfl) ?_
              simp only [go_sem, ↓evs_eq, Nat.reduceAdd, ↓reduceIte, Nat.reduceEqDiff, Nat.reduceBEq, Nat.reduceBNe, Nat.reduceLT, Int.reduceToNat, Int.reduceEq, Int.reduceLT, Int.reduceLE, reduceCtorEq, Nat.reduceMul, Nat.reduceLeDiff, S_api_Node.enc_eq]
              rw [wp_ret]
              simp only [retQ, results, resultAll, resultOne, Nat.zero_add, scopeQ, go_sem, ↓evs_eq, Nat.reduceAdd, ↓reduceIte, Nat.reduceEqDiff, Nat.reduceBEq, Nat.reduceBNe, Nat.reduceLT, Int.reduceToNat, Int.reduceEq, Int.reduceLT, Int.reduceLE, reduceCtorEq, Nat.reduceMul, Nat.reduceLeDiff, S_api_Node.enc_eq]
              refine ⟨_, (.refl _), ?_⟩
              exact hK _ hq
          · refine wp_region_i (by rfl) ?_
            simp only [go_sem, ↓evs_eq, Nat.reduceAdd, ↓reduceIte, Nat.reduceEqDiff, Nat.reduceBEq, Nat.reduceBNe, Nat.reduceLT, Int.reduceToNat, Int.reduceEq, Int.reduceLT, Int.reduceLE, reduceCtorEq, Nat.reduceMul, Nat.reduceLeDiff, S_api_Node.enc_eq]
            by_cases hc39 : (65 : Int) ≤ (x0.toNat : Int)
            · replace hq := (R.post_if hq).1 hc39
              simp only [decide_eq_true hc39, go_sem, ↓evs_eq, Nat.reduceAdd, ↓reduceIte, Nat.reduceEqDiff, Nat.reduceBEq, Nat.reduceBNe, Nat.reduceLT, Int.reduceToNat, Int.reduceEq, Int.reduceLT, Int.reduceLE, reduceCtorEq, Nat.reduceMul, Nat.reduceLeDiff, S_api_Node.enc_eq]
              exact hN38 (decide ((x0.toNat : Int) ≤ 70)) hq
            · replace hq := (R.post_if hq).2 hc39
              simp only [decide_eq_false hc39, go_sem, ↓evs_eq, Nat.reduceAdd, ↓reduceIte, Nat.reduceEqDiff, Nat.reduceBEq, Nat.reduceBNe, Nat.reduceLT, Int.reduceToNat, Int.reduceEq, Int.reduceLT, Int.reduceLE, reduceCtorEq, Nat.reduceMul, Nat.reduceLeDiff, S_api_Node.enc_eq]
              exact hN38 false hq
      · refine wp_region_i (by rfl) ?_
        simp only [go_sem, ↓evs_eq, Nat.reduceAdd, ↓reduceIte, Nat.reduceEqDiff, Nat.reduceBEq, Nat.reduceBNe, Nat.reduceLT, Int.reduceToNat, Int.reduceEq, Int.reduceLT, Int.reduceLE, reduceCtorEq, Nat.reduceMul, Nat.reduceLeDiff, S_api_Node.enc_eq]
        by_cases hc30 : (97 : Int) ≤ (x0.toNat : Int)
        · replace hq := (R.post_if hq).1 hc30
          simp only [decide_eq_true hc30, go_sem, ↓evs_eq, Nat.reduceAdd, ↓reduceIte, Nat.reduceEqDiff, Nat.reduceBEq, Nat.reduceBNe, Nat.reduceLT, Int.reduceToNat, Int.reduceEq, Int.reduceLT, Int.reduceLE, reduceCtorEq, Nat.reduceMul, Nat.reduceLeDiff, S_api_Node.enc_eq]
          exact hN29 (decide ((x0.toNat : Int) ≤ 102)) hq
        · replace hq := (R.post_if hq).2 hc30
          simp only [decide_eq_false hc30, go_sem, ↓evs_eq, Nat.reduceAdd, ↓reduceIte, Nat.reduceEqDiff, Nat.reduceBEq, Nat.reduceBNe, Nat.reduceLT, Int.reduceToNat, Int.reduceEq, Int.reduceLT, Int.reduceLE, reduceCtorEq, Nat.reduceMul, Nat.reduceLeDiff, S_api_Node.enc_eq]
          exact hN29 false hq
  · refine wp_region_i (by rfl) ?_
    simp only [go_sem, ↓evs_eq, Nat.reduceAdd, ↓reduceIte, Nat.reduceEqDiff, Nat.reduceBEq, Nat.reduceBNe, Nat.reduceLT, Int.reduceToNat, Int.reduceEq, Int.reduceLT, Int.reduceLE, reduceCtorEq, Nat.reduceMul, Nat.reduceLeDiff, S_api_Node.enc_eq]
    by_cases hc21 : (48 : Int) ≤ (x0.toNat : Int)
    · replace hq := (R.post_if hq).1 hc21
      simp only [decide_eq_true hc21, go_sem, ↓evs_eq, Nat.reduceAdd, ↓reduceIte, Nat.reduceEqDiff, Nat.reduceBEq, Nat.reduceBNe, Nat.reduceLT, Int.reduceToNat, Int.reduceEq, Int.reduceLT, Int.reduceLE, reduceCtorEq, Nat.reduceMul, Nat.reduceLeDiff, S_api_Node.enc_eq]
      exact hN20 (decide ((x0.toNat : Int) ≤ 57)) hq
    · replace hq := (R.post_if hq).2 hc21
      simp only [decide_eq_false hc21, go_sem, ↓evs_eq, Nat.reduceAdd, ↓reduceIte, Nat.reduceEqDiff, Nat.reduceBEq, Nat.reduceBNe, Nat.reduceLT, Int.reduceToNat, Int.reduceEq, Int.reduceLT, Int.reduceLE, reduceCtorEq, Nat.reduceMul, Nat.reduceLeDiff, S_api_Node.enc_eq]
      exact hN20 false hq

def quote_Number_j0 (x0_16 : List UInt8) (x5_54 : Int) : R (Int × Bool) :=
  R.ok (x5_54, (!(decide (x0_16 = []))))
def quote_Number_l1 (x0_16 : List UInt8) (x4_16 : Int) : Nat → Int → Int → R ((Int) ⊕ (Int × Bool))
  | 0, _, _ => R.stuck
  | k + 1, x5_56, x40_56 => if x40_56 < (List.length x0_16 : Int) then (if 0 ≤ x40_56 ∧ x40_56 < (List.length x0_16 : Int) then ((quote_worth (gt x0_16 x40_56)).bind fun r83 => (if x4_16 ≤ (IntKind.wrap .u64 r83) then (R.ok true) else (if ¬ x4_16 = 0 then (R.ok (decide ((IntKind.wrap .u64 (Int.tdiv (IntKind.wrap .u64 (18446744073709551615 - (IntKind.wrap .u64 r83))) x4_16)) < x5_56))) else R.stuck)).bind fun x57m86 => if x57m86 = true then (R.ok (.inr (0, false))) else (quote_Number_l1 x0_16 x4_16 k (IntKind.wrap .u64 ((IntKind.wrap .u64 (x5_56 * x4_16)) + (IntKind.wrap .u64 r83))) (IntKind.wrap .i64 (x40_56 + 1)))) else R.stuck) else (R.ok (.inl x5_56))
def quote_Number_j2 (x0_16 : List UInt8) (x4_16 : Int) : R (Int × Bool) :=
  (quote_Number_l1 x0_16 x4_16 Many 0 0).bind fun | (.inl x5p96) => quote_Number_j0 x0_16 x5p96 | (.inr rp97) => R.ok rp97
def quote_Number (x0 : List UInt8) : R (Int × Bool) :=
  (if (2 : Int) < (List.length x0 : Int) then (if 0 ≤ 0 ∧ 0 < (List.length x0 : Int) then (if ((List.getD x0 0 0).toNat : Int) = 48 then (if 0 ≤ 1 ∧ 1 < (List.length x0 : Int) then (R.ok (decide (((u8 (bitsV .or .u8 ((List.getD x0 1 0).toNat : Int) 32)).toNat : Int) = 120))) else R.stuck) else (R.ok false)) else R.stuck) else (R.ok false)).bind fun x9m104 => if x9m104 = true then (if 0 ≤ 2 ∧ 2 ≤ (List.length x0 : Int) then (quote_Number_j2 (List.drop 2 x0) 16) else R.stuck) else ((if (1 : Int) < (List.length x0 : Int) then (if 0 ≤ 0 ∧ 0 < (List.length x0 : Int) then (R.ok (decide (((List.getD x0 0 0).toNat : Int) = 48))) else R.stuck) else (R.ok false)).bind fun x26m118 => if x26m118 = true then (if 0 ≤ 1 ∧ 1 ≤ (List.length x0 : Int) then (quote_Number_j2 (List.drop 1 x0) 8) else R.stuck) else (quote_Number_j2 x0 10))
theorem quote_Number_call {h : H} {x0 : List UInt8} {Q : Out → H → Prop} {KK : (Int × Bool) → Prop} {X : V → Prop} (hq : (quote_Number x0).post KK X) (hK : ∀ r, KK r → Q (.ret (.tup [.int .u64 r.1, .bool r.2])) h) (hX : ∀ v, X v → V.Cl 0 v ∧ Q (.panic v) h) : CA qprim 53 [.str x0] h Q := by
  refine acalln hp Tryz.func53 rfl (by kernel_rfl) (n := 67) rfl (rs := [.tmp 2, .tmp 3]) rfl [0, 2, 3, 4, 5, 7, 8, 9, 26, 38, 39, 40, 41, 57] [] false (by simp) ?_
  unfold quote_Number at hq
  simp only [initEnv, List.map_cons, List.map_nil, List.getD_cons_zero, List.getD_cons_succ, List.getD_nil, V.demote]
  rw [wp_seq]
  refine wp_region_i (by rfl) ?_
  simp only [go_sem, ↓evs_eq, Nat.reduceAdd, ↓reduceIte, Nat.reduceEqDiff, Nat.reduceBEq, Nat.reduceBNe, Nat.reduceLT, Int.reduceToNat, Int.reduceEq, Int.reduceLT, Int.reduceLE, reduceCtorEq, Nat.reduceMul, Nat.reduceLeDiff, S_api_Node.enc_eq]
  rw [wp_seq]
  refine wp_region_i (by rfl) ?_
  simp only [go_sem, ↓evs_eq, Nat.reduceAdd, ↓reduceIte, Nat.reduceEqDiff, Nat.reduceBEq, Nat.reduceBNe, Nat.reduceLT, Int.reduceToNat, Int.reduceEq, Int.reduceLT, Int.reduceLE, reduceCtorEq, Nat.reduceMul, Nat.reduceLeDiff, S_api_Node.enc_eq]
  refine seq_gen (acall_mono hp) (σ := (List UInt8) × Int × V × V) (fun s => [(0, .str s.1), (2, .int .u64 0), (3, .bool false), (4, .int .u64 s.2.1), (5, .top), (7, .top), (8, .top), (9, s.2.2.1), (26, s.2.2.2), (38, .top), (39, .top), (40, .top), (41, .top), (57, .top)]) (fun s => h) (fun s => (quote_Number_j2 s.1 s.2.1).post KK X) (fun s hq => ?_) (fun N hN98 => ?_)
  · obtain ⟨x0_16, x4_16, y9_16, y26_16⟩ := s
    try dsimp only at hq ⊢
    unfold quote_Number_j2 at hq
    rw [wp_seq]
    refine wp_region_i (by rfl) ?_
    simp only [go_sem, ↓evs_eq, Nat.reduceAdd, ↓reduceIte, Nat.reduceEqDiff, Nat.reduceBEq, Nat.reduceBNe, Nat.reduceLT, Int.reduceToNat, Int.reduceEq, Int.reduceLT, Int.reduceLE, reduceCtorEq, Nat.reduceMul, Nat.reduceLeDiff, S_api_Node.enc_eq]
    refine seq_gen (acall_mono hp) (σ := V × V × Int × V × V × V × V × V × V × V × V × V) (fun s => [(0, .str x0_16), (2, s.1), (3, s.2.1), (4, .int .u64 x4_16), (5, .int .u64 s.2.2.1), (7, s.2.2.2.1), (8, s.2.2.2.2.1), (9, s.2.2.2.2.2.1), (26, s.2.2.2.2.2.2.1), (38, s.2.2.2.2.2.2.2.1), (39, s.2.2.2.2.2.2.2.2.1), (40, s.2.2.2.2.2.2.2.2.2.1), (41, s.2.2.2.2.2.2.2.2.2.2.1), (57, s.2.2.2.2.2.2.2.2.2.2.2)]) (fun s => h) (fun s => (quote_Number_j0 x0_16 s.2.2.1).post KK X) (fun s hq => ?_) (fun N hN55 => ?_)
    · obtain ⟨y2_54, y3_54, x5_54, y7_54, y8_54, y9_54, y26_54, y38_54, y39_54, y40_54, y41_54, y57_54⟩ := s
      try dsimp only at hq ⊢
      unfold quote_Number_j0 at hq
      rw [wp_seq]
      refine wp_region_i (by rfl) ?_
      simp only [go_sem, ↓evs_eq, Nat.reduceAdd, ↓reduceIte, Nat.reduceEqDiff, Nat.reduceBEq, Nat.reduceBNe, Nat.reduceLT, Int.reduceToNat, Int.reduceEq, Int.reduceLT, Int.reduceLE, reduceCtorEq, Nat.reduceMul, Nat.reduceLeDiff, S_api_Node.enc_eq]
      rw [wp_ret]
      simp only [retQ, results, resultAll, resultOne, Nat.zero_add, scopeQ, go_sem, ↓evs_eq, Nat.reduceAdd, ↓reduceIte, Nat.reduceEqDiff, Nat.reduceBEq, Nat.reduceBNe, Nat.reduceLT, Int.reduceToNat, Int.reduceEq, Int.reduceLT, Int.reduceLE, reduceCtorEq, Nat.reduceMul, Nat.reduceLeDiff, S_api_Node.enc_eq]
      refine ⟨_, (.refl _), ?_⟩
      exact hK _ hq
    · rw [wp_seq]
      refine wp_region_i (by rfl) ?_
      simp only [go_sem, ↓evs_eq, Nat.reduceAdd, ↓reduceIte, Nat.reduceEqDiff, Nat.reduceBEq, Nat.reduceBNe, Nat.reduceLT, Int.reduceToNat, Int.reduceEq, Int.reduceLT, Int.reduceLE, reduceCtorEq, Nat.reduceMul, Nat.reduceLeDiff, S_api_Node.enc_eq]
      rw [wp_block]
      refine loop_in ?_
      refine Wk.le (EnvLe.cons (.refl _) (EnvLe.cons (.top _) (EnvLe.cons (.top _) (EnvLe.cons (.refl _) (EnvLe.cons (.refl _) (EnvLe.cons (.refl _) (EnvLe.cons (.refl _) (EnvLe.cons (.refl _) (EnvLe.cons (.refl _) (EnvLe.cons (.refl _) (EnvLe.cons (.refl _) (EnvLe.cons (.refl _) (EnvLe.cons (.refl _) (EnvLe.cons (.refl _) EnvLe.nil)))))))))))))) ?_
      obtain ⟨K72, hK73, hq⟩ := R.post_cut hq
      refine loop_gen (acall_mono hp) (σ := V × V × Int × V × V × Int × V × V) (fun s => [(0, .str x0_16), (2, s.1), (3, s.2.1), (4, .int .u64 x4_16), (5, .int .u64 s.2.2.1), (7, s.2.2.2.1), (8, s.2.2.2.2.1), (9, y9_16), (26, y26_16), (38, .sl 1 (List.map byteV x0_16)), (39, .int .i64 (List.length x0_16 : Int)), (40, .int .i64 s.2.2.2.2.2.1), (41, s.2.2.2.2.2.2.1), (57, s.2.2.2.2.2.2.2)]) (fun s => h) (fun k s => (quote_Number_l1 x0_16 x4_16 k s.2.2.1 s.2.2.2.2.2.1).post K72 X) (fun s hs => hs) (fun k95 s hq N hN74 => ?_) _ (_, _, 0, _, _, 0, _, _) hq
      obtain ⟨y2_56, y3_56, x5_56, y7_56, y8_56, x40_56, y41_56, y57_56⟩ := s
      try dsimp only at hq ⊢
      rw [quote_Number_l1] at hq
      rw [wp_seq]
      refine wp_region_i (by rfl) ?_
      simp only [go_sem, ↓evs_eq, Nat.reduceAdd, ↓reduceIte, Nat.reduceEqDiff, Nat.reduceBEq, Nat.reduceBNe, Nat.reduceLT, Int.reduceToNat, Int.reduceEq, Int.reduceLT, Int.reduceLE, reduceCtorEq, Nat.reduceMul, Nat.reduceLeDiff, S_api_Node.enc_eq]
      rw [wp_seq]
      rw [wp_cond]
      simp only [go_sem, ↓evs_eq, Nat.reduceAdd, ↓reduceIte, Nat.reduceEqDiff, Nat.reduceBEq, Nat.reduceBNe, Nat.reduceLT, Int.reduceToNat, Int.reduceEq, Int.reduceLT, Int.reduceLE, reduceCtorEq, Nat.reduceMul, Nat.reduceLeDiff, S_api_Node.enc_eq]
      by_cases hc75 : x40_56 < (List.length x0_16 : Int)
      · replace hq := (R.post_if hq).1 hc75
        refine condK_t (congrArg V.bool (decide_eq_true hc75)) ?_
        try simp only [wp_skip, RC]
        refine Wk.same ?_
        try simp only [RC]
        rw [wp_seq]
        rw [wp_block]
        rw [wp_seq]
        refine wp_region_i (by rfl) ?_
        obtain ⟨g78, hq⟩ := R.guard hq
        have e79 := map_gt (f := byteV) (l := x0_16) (i := x40_56) g78
        simp only [e79, go_sem, ↓evs_eq, Nat.reduceAdd, ↓reduceIte, Nat.reduceEqDiff, Nat.reduceBEq, Nat.reduceBNe, Nat.reduceLT, Int.reduceToNat, Int.reduceEq, Int.reduceLT, Int.reduceLE, reduceCtorEq, Nat.reduceMul, Nat.reduceLeDiff, S_api_Node.enc_eq]
        repeat (with_reducible refine And.intro (by first | omega | assumption) ?_)
        rw [wp_seq]
        refine wp_region_i (by rfl) ?_
        simp only [go_sem, ↓evs_eq, Nat.reduceAdd, ↓reduceIte, Nat.reduceEqDiff, Nat.reduceBEq, Nat.reduceBNe, Nat.reduceLT, Int.reduceToNat, Int.reduceEq, Int.reduceLT, Int.reduceLE, reduceCtorEq, Nat.reduceMul, Nat.reduceLeDiff, S_api_Node.enc_eq]
        obtain ⟨K93, hK94, hq⟩ := R.post_cut hq
        refine quote_worth_call (x0 := (gt x0_16 x40_56)) hq (fun r83 hq => ?_) (fun v hv => ⟨(hX v hv).1, ?_⟩)
        · replace hq := hK94 _ hq
          simp only [go_sem, ↓evs_eq, Nat.reduceAdd, ↓reduceIte, Nat.reduceEqDiff, Nat.reduceBEq, Nat.reduceBNe, Nat.reduceLT, Int.reduceToNat, Int.reduceEq, Int.reduceLT, Int.reduceLE, reduceCtorEq, Nat.reduceMul, Nat.reduceLeDiff, S_api_Node.enc_eq]
          rw [wp_seq]
          obtain ⟨K87, hK88, hq⟩ := R.post_cut hq
          refine seq_gen (acall_mono hp) (σ := Bool) (fun s => [(0, .str x0_16), (2, y2_56), (3, y3_56), (4, .int .u64 x4_16), (5, .int .u64 x5_56), (7, .int .u8 ((gt x0_16 x40_56).toNat : Int)), (8, .int .u64 (IntKind.wrap .u64 r83)), (9, y9_16), (26, y26_16), (38, .sl 1 (List.map byteV x0_16)), (39, .int .i64 (List.length x0_16 : Int)), (40, .int .i64 x40_56), (41, .bool (decide (x40_56 < (List.length x0_16 : Int)))), (57, .bool s)]) (fun s => h) (fun s => K87 s) (fun x57m86 hq => ?_) (fun N hN89 => ?_)
          · replace hq := hK88 _ hq
            try dsimp only at hq ⊢
            rw [wp_cond]
            simp only [go_sem, ↓evs_eq, Nat.reduceAdd, ↓reduceIte, Nat.reduceEqDiff, Nat.reduceBEq, Nat.reduceBNe, Nat.reduceLT, Int.reduceToNat, Int.reduceEq, Int.reduceLT, Int.reduceLE, reduceCtorEq, Nat.reduceMul, Nat.reduceLeDiff, S_api_Node.enc_eq]
            by_cases hc92 : x57m86 = true
            · replace hq := (R.post_if hq).1 hc92
              refine condK_t (congrArg V.bool (hc92)) ?_
              rw [wp_seq]
              refine wp_region_i (by rfl) ?_
              simp only [go_sem, ↓evs_eq, Nat.reduceAdd, ↓reduceIte, Nat.reduceEqDiff, Nat.reduceBEq, Nat.reduceBNe, Nat.reduceLT, Int.reduceToNat, Int.reduceEq, Int.reduceLT, Int.reduceLE, reduceCtorEq, Nat.reduceMul, Nat.reduceLeDiff, S_api_Node.enc_eq]
              rw [wp_ret]
              simp only [retQ, results, resultAll, resultOne, Nat.zero_add, scopeQ, go_sem, ↓evs_eq, Nat.reduceAdd, ↓reduceIte, Nat.reduceEqDiff, Nat.reduceBEq, Nat.reduceBNe, Nat.reduceLT, Int.reduceToNat, Int.reduceEq, Int.reduceLT, Int.reduceLE, reduceCtorEq, Nat.reduceMul, Nat.reduceLeDiff, S_api_Node.enc_eq]
              refine ⟨_, (.refl _), ?_⟩
              replace hq := hK73 _ hq
              exact hK _ hq
            · replace hq := (R.post_if hq).2 hc92
              replace hc92 := eq_false_of_ne_true hc92
              refine condK_f (congrArg V.bool (hc92)) ?_
              try simp only [wp_skip, RC]
              refine Wk.same ?_
              try simp only [RC]
              refine wp_region_i (by rfl) ?_
              simp only [go_sem, ↓evs_eq, Nat.reduceAdd, ↓reduceIte, Nat.reduceEqDiff, Nat.reduceBEq, Nat.reduceBNe, Nat.reduceLT, Int.reduceToNat, Int.reduceEq, Int.reduceLT, Int.reduceLE, reduceCtorEq, Nat.reduceMul, Nat.reduceLeDiff, S_api_Node.enc_eq]
              refine Wk.same ?_
              try simp only [RC]
              refine wp_region_i (by rfl) ?_
              simp only [go_sem, ↓evs_eq, Nat.reduceAdd, ↓reduceIte, Nat.reduceEqDiff, Nat.reduceBEq, Nat.reduceBNe, Nat.reduceLT, Int.reduceToNat, Int.reduceEq, Int.reduceLT, Int.reduceLE, reduceCtorEq, Nat.reduceMul, Nat.reduceLeDiff, S_api_Node.enc_eq]
              refine Wk.le (EnvLe.cons (.refl _) (EnvLe.cons (.refl _) (EnvLe.cons (.refl _) (EnvLe.cons (.refl _) (EnvLe.cons (.refl _) (EnvLe.cons (.top _) (EnvLe.cons (.top _) (EnvLe.cons (.refl _) (EnvLe.cons (.refl _) (EnvLe.cons (.refl _) (EnvLe.cons (.refl _) (EnvLe.cons (.refl _) (EnvLe.cons (.top _) (EnvLe.cons (.top _) EnvLe.nil)))))))))))))) ?_
              exact hN74 (_, _, (IntKind.wrap .u64 ((IntKind.wrap .u64 (x5_56 * x4_16)) + (IntKind.wrap .u64 r83))), _, _, (IntKind.wrap .i64 (x40_56 + 1)), _, _) hq
          · refine wp_region_i (by rfl) ?_
            simp only [go_sem, ↓evs_eq, Nat.reduceAdd, ↓reduceIte, Nat.reduceEqDiff, Nat.reduceBEq, Nat.reduceBNe, Nat.reduceLT, Int.reduceToNat, Int.reduceEq, Int.reduceLT, Int.reduceLE, reduceCtorEq, Nat.reduceMul, Nat.reduceLeDiff, S_api_Node.enc_eq]
            by_cases hc90 : x4_16 ≤ (IntKind.wrap .u64 r83)
            · replace hq := (R.post_if hq).1 hc90
              simp only [decide_eq_true hc90, go_sem, ↓evs_eq, Nat.reduceAdd, ↓reduceIte, Nat.reduceEqDiff, Nat.reduceBEq, Nat.reduceBNe, Nat.reduceLT, Int.reduceToNat, Int.reduceEq, Int.reduceLT, Int.reduceLE, reduceCtorEq, Nat.reduceMul, Nat.reduceLeDiff, S_api_Node.enc_eq]
              exact hN89 true hq
            · replace hq := (R.post_if hq).2 hc90
              obtain ⟨g91, hq⟩ := R.guard hq
              simp only [decide_eq_false hc90, go_sem, ↓evs_eq, Nat.reduceAdd, ↓reduceIte, Nat.reduceEqDiff, Nat.reduceBEq, Nat.reduceBNe, Nat.reduceLT, Int.reduceToNat, Int.reduceEq, Int.reduceLT, Int.reduceLE, reduceCtorEq, Nat.reduceMul, Nat.reduceLeDiff, S_api_Node.enc_eq]
              repeat (with_reducible refine And.intro (by first | omega | assumption) ?_)
              exact hN89 (decide ((IntKind.wrap .u64 (Int.tdiv (IntKind.wrap .u64 (18446744073709551615 - (IntKind.wrap .u64 r83))) x4_16)) < x5_56)) hq
        · simp only [RC, scopeQ, retQ, ↓reduceIte, Bool.false_eq_true]
          exact (hX _ hv).2
      · replace hq := (R.post_if hq).2 hc75
        refine condK_f (congrArg V.bool (decide_eq_false hc75)) ?_
        rw [wp_exit]
        try simp only [↓reduceIte, Nat.reduceEqDiff, reduceCtorEq, if_false, if_true, eq_self, Nat.succ_ne_self, RC]
        replace hq := hK73 _ hq
        try dsimp only at hq
        refine Wk.le (EnvLe.cons (.refl _) (EnvLe.cons (.refl _) (EnvLe.cons (.refl _) (EnvLe.cons (.refl _) (EnvLe.cons (.refl _) (EnvLe.cons (.refl _) (EnvLe.cons (.refl _) (EnvLe.cons (.refl _) (EnvLe.cons (.refl _) (EnvLe.cons (.top _) (EnvLe.cons (.top _) (EnvLe.cons (.top _) (EnvLe.cons (.top _) (EnvLe.cons (.refl _) EnvLe.nil)))))))))))))) ?_
        try simp only [RC]
        exact hN55 (_, _, x5_56, _, _, _, _, _, _, _, _, _) hq
  · rw [wp_block]
    obtain ⟨K105, hK106, hq⟩ := R.post_cut hq
    refine seq_gen (acall_mono hp) (σ := Bool) (fun s => [(0, .str x0), (2, .int .u64 0), (3, .bool false), (4, .int .u64 10), (5, .top), (7, .top), (8, .top), (9, .bool s), (26, .top), (38, .top), (39, .top), (40, .top), (41, .top), (57, .top)]) (fun s => h) (fun s => K105 s) (fun x9m104 hq => ?_) (fun N hN107 => ?_)
    · replace hq := hK106 _ hq
      try dsimp only at hq ⊢
      rw [wp_cond]
      simp only [go_sem, ↓evs_eq, Nat.reduceAdd, ↓reduceIte, Nat.reduceEqDiff, Nat.reduceBEq, Nat.reduceBNe, Nat.reduceLT, Int.reduceToNat, Int.reduceEq, Int.reduceLT, Int.reduceLE, reduceCtorEq, Nat.reduceMul, Nat.reduceLeDiff, S_api_Node.enc_eq]
      by_cases hc113 : x9m104 = true
      · replace hq := (R.post_if hq).1 hc113
        refine condK_t (congrArg V.bool (hc113)) ?_
        refine wp_draw (acall_mono hp) (by kernel_rfl) (by rfl) ?_
        obtain ⟨g115, hq⟩ := R.guard hq
        simp only [go_sem, ↓evs_eq, Nat.reduceAdd, ↓reduceIte, Nat.reduceEqDiff, Nat.reduceBEq, Nat.reduceBNe, Nat.reduceLT, Int.reduceToNat, Int.reduceEq, Int.reduceLT, Int.reduceLE, reduceCtorEq, Nat.reduceMul, Nat.reduceLeDiff, S_api_Node.enc_eq]
        repeat (with_reducible refine And.intro (by first | omega | assumption) ?_)
        refine Wk.le (EnvLe.cons (.refl _) (EnvLe.cons (.refl _) (EnvLe.cons (.refl _) (EnvLe.cons (.refl _) (EnvLe.cons (.refl _) (EnvLe.cons (.refl _) (EnvLe.cons (.refl _) (EnvLe.cons (.top _) (EnvLe.cons (.refl _) (EnvLe.cons (.refl _) (EnvLe.cons (.refl _) (EnvLe.cons (.refl _) (EnvLe.cons (.refl _) (EnvLe.cons (.refl _) EnvLe.nil)))))))))))))) ?_
        try simp only [RC]
        refine Wk.same ?_
        try simp only [RC]
        exact hN98 ((List.drop 2 x0), 16, _, _) hq
      · replace hq := (R.post_if hq).2 hc113
        replace hc113 := eq_false_of_ne_true hc113
        refine condK_f (congrArg V.bool (hc113)) ?_
        obtain ⟨K119, hK120, hq⟩ := R.post_cut hq
        refine seq_gen (acall_mono hp) (σ := Bool) (fun s => [(0, .str x0), (2, .int .u64 0), (3, .bool false), (4, .int .u64 10), (5, .top), (7, .top), (8, .top), (9, .bool x9m104), (26, .bool s), (38, .top), (39, .top), (40, .top), (41, .top), (57, .top)]) (fun s => h) (fun s => K119 s) (fun x26m118 hq => ?_) (fun N hN121 => ?_)
        · replace hq := hK120 _ hq
          try dsimp only at hq ⊢
          rw [wp_cond]
          simp only [go_sem, ↓evs_eq, Nat.reduceAdd, ↓reduceIte, Nat.reduceEqDiff, Nat.reduceBEq, Nat.reduceBNe, Nat.reduceLT, Int.reduceToNat, Int.reduceEq, Int.reduceLT, Int.reduceLE, reduceCtorEq, Nat.reduceMul, Nat.reduceLeDiff, S_api_Node.enc_eq]
          by_cases hc124 : x26m118 = true
          · replace hq := (R.post_if hq).1 hc124
            refine condK_t (congrArg V.bool (hc124)) ?_
            refine wp_draw (acall_mono hp) (by kernel_rfl) (by rfl) ?_
            obtain ⟨g126, hq⟩ := R.guard hq
            simp only [go_sem, ↓evs_eq, Nat.reduceAdd, ↓reduceIte, Nat.reduceEqDiff, Nat.reduceBEq, Nat.reduceBNe, Nat.reduceLT, Int.reduceToNat, Int.reduceEq, Int.reduceLT, Int.reduceLE, reduceCtorEq, Nat.reduceMul, Nat.reduceLeDiff, S_api_Node.enc_eq]
            repeat (with_reducible refine And.intro (by first | omega | assumption) ?_)
            refine Wk.le (EnvLe.cons (.refl _) (EnvLe.cons (.refl _) (EnvLe.cons (.refl _) (EnvLe.cons (.refl _) (EnvLe.cons (.refl _) (EnvLe.cons (.refl _) (EnvLe.cons (.refl _) (EnvLe.cons (.top _) (EnvLe.cons (.top _) (EnvLe.cons (.refl _) (EnvLe.cons (.refl _) (EnvLe.cons (.refl _) (EnvLe.cons (.refl _) (EnvLe.cons (.refl _) EnvLe.nil)))))))))))))) ?_
            try simp only [RC]
            refine Wk.same ?_
            try simp only [RC]
            refine Wk.same ?_
            try simp only [RC]
            exact hN98 ((List.drop 1 x0), 8, _, _) hq
          · replace hq := (R.post_if hq).2 hc124
            replace hc124 := eq_false_of_ne_true hc124
            refine condK_f (congrArg V.bool (hc124)) ?_
            try simp only [wp_skip, RC]
            refine Wk.le (EnvLe.cons (.refl _) (EnvLe.cons (.refl _) (EnvLe.cons (.refl _) (EnvLe.cons (.refl _) (EnvLe.cons (.refl _) (EnvLe.cons (.refl _) (EnvLe.cons (.refl _) (EnvLe.cons (.top _) (EnvLe.cons (.top _) (EnvLe.cons (.refl _) (EnvLe.cons (.refl _) (EnvLe.cons (.refl _) (EnvLe.cons (.refl _) (EnvLe.cons (.refl _) EnvLe.nil)))))))))))))) ?_
            try simp only [RC]
            refine Wk.same ?_
            try simp only [RC]
            refine Wk.same ?_
            try simp only [RC]
            exact hN98 (x0, 10, _, _) hq
        · refine wp_region_i (by rfl) ?_
          simp only [go_sem, ↓evs_eq, Nat.reduceAdd, ↓reduceIte, Nat.reduceEqDiff, Nat.reduceBEq, Nat.reduceBNe, Nat.reduceLT, Int.reduceToNat, Int.reduceEq, Int.reduceLT, Int.reduceLE, reduceCtorEq, Nat.reduceMul, Nat.reduceLeDiff, S_api_Node.enc_eq]
          by_cases hc122 : (1 : Int) < (List.length x0 : Int)
          · replace hq := (R.post_if hq).1 hc122
            obtain ⟨g123, hq⟩ := R.guard hq
            simp only [decide_eq_true hc122, go_sem, ↓evs_eq, Nat.reduceAdd, ↓reduceIte, Nat.reduceEqDiff, Nat.reduceBEq, Nat.reduceBNe, Nat.reduceLT, Int.reduceToNat, Int.reduceEq, Int.reduceLT, Int.reduceLE, reduceCtorEq, Nat.reduceMul, Nat.reduceLeDiff, S_api_Node.enc_eq]
            repeat (with_reducible refine And.intro (by first | omega | assumption) ?_)
            exact hN121 (decide (((List.getD x0 0 0).toNat : Int) = 48)) hq
          · replace hq := (R.post_if hq).2 hc122
            simp only [decide_eq_false hc122, go_sem, ↓evs_eq, Nat.reduceAdd, ↓reduceIte, Nat.reduceEqDiff, Nat.reduceBEq, Nat.reduceBNe, Nat.reduceLT, Int.reduceToNat, Int.reduceEq, Int.reduceLT, Int.reduceLE, reduceCtorEq, Nat.reduceMul, Nat.reduceLeDiff, S_api_Node.enc_eq]
            exact hN121 false hq
    · refine wp_region_i (by rfl) ?_
      simp only [go_sem, ↓evs_eq, Nat.reduceAdd, ↓reduceIte, Nat.reduceEqDiff, Nat.reduceBEq, Nat.reduceBNe, Nat.reduceLT, Int.reduceToNat, Int.reduceEq, Int.reduceLT, Int.reduceLE, reduceCtorEq, Nat.reduceMul, Nat.reduceLeDiff, S_api_Node.enc_eq]
      by_cases hc108 : (2 : Int) < (List.length x0 : Int)
      · replace hq := (R.post_if hq).1 hc108
        obtain ⟨g109, hq⟩ := R.guard hq
        simp only [decide_eq_true hc108, go_sem, ↓evs_eq, Nat.reduceAdd, ↓reduceIte, Nat.reduceEqDiff, Nat.reduceBEq, Nat.reduceBNe, Nat.reduceLT, Int.reduceToNat, Int.reduceEq, Int.reduceLT, Int.reduceLE, reduceCtorEq, Nat.reduceMul, Nat.reduceLeDiff, S_api_Node.enc_eq]
        repeat (with_reducible refine And.intro (by first | omega | assumption) ?_)
        by_cases hc110 : ((List.getD x0 0 0).toNat : Int) = 48
        · replace hq := (R.post_if hq).1 hc110
          obtain ⟨g111, hq⟩ := R.guard hq
          have e112 := u8_fix (n := (bitsV .or .u8 ((List.getD x0 1 0).toNat : Int) 32)) (bits_u8 _ _ _)
          simp only [e112, decide_eq_true hc110, go_sem, ↓evs_eq, Nat.reduceAdd, ↓reduceIte, Nat.reduceEqDiff, Nat.reduceBEq, Nat.reduceBNe, Nat.reduceLT, Int.reduceToNat, Int.reduceEq, Int.reduceLT, Int.reduceLE, reduceCtorEq, Nat.reduceMul, Nat.reduceLeDiff, S_api_Node.enc_eq]
          repeat (with_reducible refine And.intro (by first | omega | assumption) ?_)
          exact hN107 (decide (((u8 (bitsV .or .u8 ((List.getD x0 1 0).toNat : Int) 32)).toNat : Int) = 120)) hq
        · replace hq := (R.post_if hq).2 hc110
          simp only [decide_eq_false hc110, go_sem, ↓evs_eq, Nat.reduceAdd, ↓reduceIte, Nat.reduceEqDiff, Nat.reduceBEq, Nat.reduceBNe, Nat.reduceLT, Int.reduceToNat, Int.reduceEq, Int.reduceLT, Int.reduceLE, reduceCtorEq, Nat.reduceMul, Nat.reduceLeDiff, S_api_Node.enc_eq]
          exact hN107 false hq
      · replace hq := (R.post_if hq).2 hc108
        simp only [decide_eq_false hc108, go_sem, ↓evs_eq, Nat.reduceAdd, ↓reduceIte, Nat.reduceEqDiff, Nat.reduceBEq, Nat.reduceBNe, Nat.reduceLT, Int.reduceToNat, Int.reduceEq, Int.reduceLT, Int.reduceLE, reduceCtorEq, Nat.reduceMul, Nat.reduceLeDiff, S_api_Node.enc_eq]
        exact hN107 false hq

def quote_Digits_l0 : Nat → Int → Int → List UInt8 → R ((List UInt8))
  | 0, _, _, _ => R.stuck
  | k + 1, x0_17, x4_17, o0_0_17 => if 0 ≤ (IntKind.wrap .i64 (x4_17 - 1)) ∧ (IntKind.wrap .i64 (x4_17 - 1)) < 20 then (if (Int.toNat (IntKind.wrap .i64 (x4_17 - 1))) < List.length o0_0_17 then (if (IntKind.wrap .u64 (Int.tdiv x0_17 10)) = 0 then (if 0 ≤ (IntKind.wrap .i64 (x4_17 - 1)) ∧ (IntKind.wrap .i64 (x4_17 - 1)) ≤ 20 then (if (Int.toNat (IntKind.wrap .i64 (x4_17 - 1))) + (20 - (Int.toNat (IntKind.wrap .i64 (x4_17 - 1)))) ≤ List.length (List.set o0_0_17 (Int.toNat (IntKind.wrap .i64 (x4_17 - 1))) (u8 (IntKind.wrap .u8 (48 + ((u8 (IntKind.wrap .u8 (Int.tmod x0_17 10))).toNat : Int))))) then (R.ok (List.take (20 - (Int.toNat (IntKind.wrap .i64 (x4_17 - 1)))) (List.drop (Int.toNat (IntKind.wrap .i64 (x4_17 - 1))) (List.set o0_0_17 (Int.toNat (IntKind.wrap .i64 (x4_17 - 1))) (u8 (IntKind.wrap .u8 (48 + ((u8 (IntKind.wrap .u8 (Int.tmod x0_17 10))).toNat : Int)))))))) else R.stuck) else R.stuck) else (quote_Digits_l0 k (IntKind.wrap .u64 (Int.tdiv x0_17 10)) (IntKind.wrap .i64 (x4_17 - 1)) (List.set o0_0_17 (Int.toNat (IntKind.wrap .i64 (x4_17 - 1))) (u8 (IntKind.wrap .u8 (48 + ((u8 (IntKind.wrap .u8 (Int.tmod x0_17 10))).toNat : Int))))))) else R.stuck) else R.stuck
def quote_Digits (x0 : Int) : R ((List UInt8)) :=
  quote_Digits_l0 Many x0 20 ([0, 0, 0, 0, 0, 0, 0, 0, 0, 0, 0, 0, 0, 0, 0, 0, 0, 0, 0, 0])
theorem quote_Digits_call {h : H} {x0 : Int} {Q : Out → H → Prop} {KK : ((List UInt8)) → Prop} {X : V → Prop} (hq : (quote_Digits x0).post KK X) (hK : ∀ r, KK r → Q (.ret (.str r)) h) (hX : ∀ v, X v → V.Cl 0 v ∧ Q (.panic v) h) : CA qprim 54 [.int .u64 x0] h Q := by
  refine acalln hp Tryz.func54 rfl (by kernel_rfl) (n := 20) rfl (rs := [.tmp 2]) rfl [0, 2, 3, 4, 16] [] true (by simp) ?_
  unfold quote_Digits at hq
  simp only [initEnv, List.map_cons, List.map_nil, List.getD_cons_zero, List.getD_cons_succ, List.getD_nil, V.demote]
  rw [wp_seq]
  refine wp_region_i (by rfl) ?_
  simp only [go_sem, ↓evs_eq, Nat.reduceAdd, ↓reduceIte, Nat.reduceEqDiff, Nat.reduceBEq, Nat.reduceBNe, Nat.reduceLT, Int.reduceToNat, Int.reduceEq, Int.reduceLT, Int.reduceLE, reduceCtorEq, Nat.reduceMul, Nat.reduceLeDiff, S_api_Node.enc_eq]
  rw [wp_seq]
  refine wp_region_i (by rfl) ?_
  simp only [go_sem, ↓evs_eq, Nat.reduceAdd, ↓reduceIte, Nat.reduceEqDiff, Nat.reduceBEq, Nat.reduceBNe, Nat.reduceLT, Int.reduceToNat, Int.reduceEq, Int.reduceLT, Int.reduceLE, reduceCtorEq, Nat.reduceMul, Nat.reduceLeDiff, S_api_Node.enc_eq]
  rw [wp_seq]
  refine wp_region_i (by rfl) ?_
  simp only [go_sem, ↓evs_eq, Nat.reduceAdd, ↓reduceIte, Nat.reduceEqDiff, Nat.reduceBEq, Nat.reduceBNe, Nat.reduceLT, Int.reduceToNat, Int.reduceEq, Int.reduceLT, Int.reduceLE, reduceCtorEq, Nat.reduceMul, Nat.reduceLeDiff, S_api_Node.enc_eq]
  rw [wp_block]
  refine loop_in ?_
  refine Wk.le (EnvLe.cons (.refl _) (EnvLe.cons (.top _) (EnvLe.cons (.refl _) (EnvLe.cons (.refl _) (EnvLe.cons (.refl _) EnvLe.nil))))) ?_
  refine loop_gen (acall_mono hp) (σ := Int × V × Int × V × (List UInt8)) (fun s => [(0, .int .u64 s.1), (2, s.2.1), (3, .ref h.length 0), (4, .int .i64 s.2.2.1), (16, s.2.2.2.1)]) (fun s => h ++ [.cells 145 (List.map byteV s.2.2.2.2)]) (fun k s => (quote_Digits_l0 k s.1 s.2.2.1 s.2.2.2.2).post KK X) (fun s hs => hs) (fun k49 s hq N hN33 => ?_) _ (x0, _, 20, _, [0, 0, 0, 0, 0, 0, 0, 0, 0, 0, 0, 0, 0, 0, 0, 0, 0, 0, 0, 0]) hq
  obtain ⟨x0_17, y2_17, x4_17, y16_17, o0_0_17⟩ := s
  try dsimp only at hq ⊢
  rw [quote_Digits_l0] at hq
  rw [wp_block]
  rw [wp_seq]
  refine wp_region_i (by rfl) ?_
  simp only [go_sem, ↓evs_eq, Nat.reduceAdd, ↓reduceIte, Nat.reduceEqDiff, Nat.reduceBEq, Nat.reduceBNe, Nat.reduceLT, Int.reduceToNat, Int.reduceEq, Int.reduceLT, Int.reduceLE, reduceCtorEq, Nat.reduceMul, Nat.reduceLeDiff, S_api_Node.enc_eq]
  rw [wp_seq]
  refine wp_region_i (by rfl) ?_
  obtain ⟨g41, hq⟩ := R.guard hq
  obtain ⟨g42, hq⟩ := R.guard hq
  have e39 := u8_fix (n := (IntKind.wrap .u8 (Int.tmod x0_17 10))) (wrap_u8 _)
  have e40 := u8_fix (n := (IntKind.wrap .u8 (48 + ((u8 (IntKind.wrap .u8 (Int.tmod x0_17 10))).toNat : Int)))) (wrap_u8 _)
  have e43 : List.map byteV (List.take (Int.toNat (IntKind.wrap .i64 (x4_17 - 1))) o0_0_17) ++ (.int .u8 ((u8 (IntKind.wrap .u8 (48 + ((u8 (IntKind.wrap .u8 (Int.tmod x0_17 10))).toNat : Int)))).toNat : Int)) :: List.map byteV (List.drop ((Int.toNat (IntKind.wrap .i64 (x4_17 - 1))) + 1) o0_0_17) = List.map byteV (List.set o0_0_17 (Int.toNat (IntKind.wrap .i64 (x4_17 - 1))) (u8 (IntKind.wrap .u8 (48 + ((u8 (IntKind.wrap .u8 (Int.tmod x0_17 10))).toNat : Int))))) := set_map (f := byteV) (l := o0_0_17) (x := (u8 (IntKind.wrap .u8 (48 + ((u8 (IntKind.wrap .u8 (Int.tmod x0_17 10))).toNat : Int))))) (n := (Int.toNat (IntKind.wrap .i64 (x4_17 - 1)))) g42
  simp only [e39, e40, e43, go_sem, ↓evs_eq, Nat.reduceAdd, ↓reduceIte, Nat.reduceEqDiff, Nat.reduceBEq, Nat.reduceBNe, Nat.reduceLT, Int.reduceToNat, Int.reduceEq, Int.reduceLT, Int.reduceLE, reduceCtorEq, Nat.reduceMul, Nat.reduceLeDiff, S_api_Node.enc_eq]
  repeat (with_reducible refine And.intro (by first | omega | assumption) ?_)
  rw [wp_seq]
  refine wp_region_i (by rfl) ?_
  simp only [go_sem, ↓evs_eq, Nat.reduceAdd, ↓reduceIte, Nat.reduceEqDiff, Nat.reduceBEq, Nat.reduceBNe, Nat.reduceLT, Int.reduceToNat, Int.reduceEq, Int.reduceLT, Int.reduceLE, reduceCtorEq, Nat.reduceMul, Nat.reduceLeDiff, S_api_Node.enc_eq]
  rw [wp_seq]
  refine wp_region_i (by rfl) ?_
  simp only [go_sem, ↓evs_eq, Nat.reduceAdd, ↓reduceIte, Nat.reduceEqDiff, Nat.reduceBEq, Nat.reduceBNe, Nat.reduceLT, Int.reduceToNat, Int.reduceEq, Int.reduceLT, Int.reduceLE, reduceCtorEq, Nat.reduceMul, Nat.reduceLeDiff, S_api_Node.enc_eq]
  rw [wp_cond]
  simp only [go_sem, ↓evs_eq, Nat.reduceAdd, ↓reduceIte, Nat.reduceEqDiff, Nat.reduceBEq, Nat.reduceBNe, Nat.reduceLT, Int.reduceToNat, Int.reduceEq, Int.reduceLT, Int.reduceLE, reduceCtorEq, Nat.reduceMul, Nat.reduceLeDiff, S_api_Node.enc_eq]
  by_cases hc44 : (IntKind.wrap .u64 (Int.tdiv x0_17 10)) = 0
  · replace hq := (R.post_if hq).1 hc44
    refine condK_t (congrArg V.bool (decide_eq_true hc44)) ?_
    rw [wp_seq]
    refine wp_region_i (by rfl) ?_
    obtain ⟨g47, hq⟩ := R.guard hq
    obtain ⟨g48, hq⟩ := R.guard hq
    simp only [go_sem, ↓evs_eq, Nat.reduceAdd, ↓reduceIte, Nat.reduceEqDiff, Nat.reduceBEq, Nat.reduceBNe, Nat.reduceLT, Int.reduceToNat, Int.reduceEq, Int.reduceLT, Int.reduceLE, reduceCtorEq, Nat.reduceMul, Nat.reduceLeDiff, S_api_Node.enc_eq]
    repeat (with_reducible refine And.intro (by first | omega | assumption) ?_)
    rw [wp_ret]
    simp only [retQ, results, resultAll, resultOne, Nat.zero_add, scopeQ, go_sem, ↓evs_eq, Nat.reduceAdd, ↓reduceIte, Nat.reduceEqDiff, Nat.reduceBEq, Nat.reduceBNe, Nat.reduceLT, Int.reduceToNat, Int.reduceEq, Int.reduceLT, Int.reduceLE, reduceCtorEq, Nat.reduceMul, Nat.reduceLeDiff, S_api_Node.enc_eq]
    refine ⟨_, (.refl _), ?_⟩
    refine leave_ok rfl (.str _) ?_
    exact hK _ hq
  · replace hq := (R.post_if hq).2 hc44
    refine condK_f (congrArg V.bool (decide_eq_false hc44)) ?_
    try simp only [wp_skip, RC]
    refine Wk.le (EnvLe.cons (.refl _) (EnvLe.cons (.refl _) (EnvLe.cons (.refl _) (EnvLe.cons (.refl _) (EnvLe.cons (.top _) EnvLe.nil))))) ?_
    try simp only [RC]
    refine Wk.same ?_
    try simp only [RC]
    refine Wk.same ?_
    exact hN33 ((IntKind.wrap .u64 (Int.tdiv x0_17 10)), _, (IntKind.wrap .i64 (x4_17 - 1)), _, (List.set o0_0_17 (Int.toNat (IntKind.wrap .i64 (x4_17 - 1))) (u8 (IntKind.wrap .u8 (48 + ((u8 (IntKind.wrap .u8 (Int.tmod x0_17 10))).toNat : Int)))))) hq

def node_Int (x0 : List UInt8) : R (Int × Bool × Bool) :=
  (strings_CutPrefix x0 ([45])).bind fun r4 => (quote_Number r4.1).bind fun r8 => (if r8.2 = true then ((quote_Digits r8.1).bind fun r30 => if r30 = r4.1 then (if r4.2 = true then (if r8.1 = 0 then (R.ok (true, true)) else (R.ok (true, (decide ((9223372036854775808 : Int) < r8.1))))) else (R.ok (false, false))) else (R.ok (r4.2, true))) else (R.ok (r4.2, true))).bind fun (x6m25, x37m25) => if x37m25 = true then (R.ok (0, false, false)) else (R.ok (r8.1, x6m25, true))
theorem node_Int_call {h : H} {x0 : List UInt8} {Q : Out → H → Prop} {KK : (Int × Bool × Bool) → Prop} {X : V → Prop} (hq : (node_Int x0).post KK X) (hK : ∀ r, KK r → Q (.ret (.tup [.int .u64 r.1, .bool r.2.1, .bool r.2.2])) h) (hX : ∀ v, X v → V.Cl 0 v ∧ Q (.panic v) h) : CA qprim 26 [.str x0] h Q := by
  refine acalln hp Tryz.func26 rfl (by kernel_rfl) (n := 40) rfl (rs := [.tmp 2, .tmp 3, .tmp 4]) rfl [0, 2, 3, 4, 5, 6, 7, 8, 37] [] false (by simp) ?_
  unfold node_Int at hq
  simp only [initEnv, List.map_cons, List.map_nil, List.getD_cons_zero, List.getD_cons_succ, List.getD_nil, V.demote]
  rw [wp_seq]
  refine wp_region_i (by rfl) ?_
  simp only [go_sem, ↓evs_eq, Nat.reduceAdd, ↓reduceIte, Nat.reduceEqDiff, Nat.reduceBEq, Nat.reduceBNe, Nat.reduceLT, Int.reduceToNat, Int.reduceEq, Int.reduceLT, Int.reduceLE, reduceCtorEq, Nat.reduceMul, Nat.reduceLeDiff, S_api_Node.enc_eq]
  rw [wp_seq]
  refine wp_region_i (by rfl) ?_
  simp only [go_sem, ↓evs_eq, Nat.reduceAdd, ↓reduceIte, Nat.reduceEqDiff, Nat.reduceBEq, Nat.reduceBNe, Nat.reduceLT, Int.reduceToNat, Int.reduceEq, Int.reduceLT, Int.reduceLE, reduceCtorEq, Nat.reduceMul, Nat.reduceLeDiff, S_api_Node.enc_eq]
  obtain ⟨K39, hK40, hq⟩ := R.post_cut hq
  refine strings_CutPrefix_call (x0 := x0) (x1 := [45]) hq (fun r4 hq => ?_) (fun v hv => ⟨(hX v hv).1, ?_⟩)
  · replace hq := hK40 _ hq
    simp only [go_sem, ↓evs_eq, Nat.reduceAdd, ↓reduceIte, Nat.reduceEqDiff, Nat.reduceBEq, Nat.reduceBNe, Nat.reduceLT, Int.reduceToNat, Int.reduceEq, Int.reduceLT, Int.reduceLE, reduceCtorEq, Nat.reduceMul, Nat.reduceLeDiff, S_api_Node.enc_eq]
    rw [wp_seq]
    refine wp_region_i (by rfl) ?_
    simp only [go_sem, ↓evs_eq, Nat.reduceAdd, ↓reduceIte, Nat.reduceEqDiff, Nat.reduceBEq, Nat.reduceBNe, Nat.reduceLT, Int.reduceToNat, Int.reduceEq, Int.reduceLT, Int.reduceLE, reduceCtorEq, Nat.reduceMul, Nat.reduceLeDiff, S_api_Node.enc_eq]
    obtain ⟨K37, hK38, hq⟩ := R.post_cut hq
    refine quote_Number_call (x0 := r4.1) hq (fun r8 hq => ?_) (fun v hv => ⟨(hX v hv).1, ?_⟩)
    · replace hq := hK38 _ hq
      simp only [go_sem, ↓evs_eq, Nat.reduceAdd, ↓reduceIte, Nat.reduceEqDiff, Nat.reduceBEq, Nat.reduceBNe, Nat.reduceLT, Int.reduceToNat, Int.reduceEq, Int.reduceLT, Int.reduceLE, reduceCtorEq, Nat.reduceMul, Nat.reduceLeDiff, S_api_Node.enc_eq]
      rw [wp_seq]
      obtain ⟨K26, hK27, hq⟩ := R.post_cut hq
      refine seq_gen (acall_mono hp) (σ := Bool × V × Bool) (fun s => [(0, .str x0), (2, .int .u64 0), (3, .bool false), (4, .bool false), (5, .str r4.1), (6, .bool s.1), (7, .int .u64 r8.1), (8, s.2.1), (37, .bool s.2.2)]) (fun s => h) (fun s => K26 (s.1, s.2.2)) (fun s hq => ?_) (fun N hN28 => ?_)
      · obtain ⟨x6m25, y8m25, x37m25⟩ := s
        replace hq := hK27 _ hq
        try dsimp only at hq ⊢
        rw [wp_cond]
        simp only [go_sem, ↓evs_eq, Nat.reduceAdd, ↓reduceIte, Nat.reduceEqDiff, Nat.reduceBEq, Nat.reduceBNe, Nat.reduceLT, Int.reduceToNat, Int.reduceEq, Int.reduceLT, Int.reduceLE, reduceCtorEq, Nat.reduceMul, Nat.reduceLeDiff, S_api_Node.enc_eq]
        by_cases hc36 : x37m25 = true
        · replace hq := (R.post_if hq).1 hc36
          refine condK_t (congrArg V.bool (hc36)) ?_
          rw [wp_seq]
          refine wp_region_i (by rfl) ?_
          simp only [go_sem, ↓evs_eq, Nat.reduceAdd, ↓reduceIte, Nat.reduceEqDiff, Nat.reduceBEq, Nat.reduceBNe, Nat.reduceLT, Int.reduceToNat, Int.reduceEq, Int.reduceLT, Int.reduceLE, reduceCtorEq, Nat.reduceMul, Nat.reduceLeDiff, S_api_Node.enc_eq]
          rw [wp_ret]
          simp only [retQ, results, resultAll, resultOne, Nat.zero_add, scopeQ, go_sem, ↓evs_eq, Nat.reduceAdd, ↓reduceIte, Nat.reduceEqDiff, Nat.reduceBEq, Nat.reduceBNe, Nat.reduceLT, Int.reduceToNat, Int.reduceEq, Int.reduceLT, Int.reduceLE, reduceCtorEq, Nat.reduceMul, Nat.reduceLeDiff, S_api_Node.enc_eq]
          refine ⟨_, (.refl _), ?_⟩
          exact hK _ hq
        · replace hq := (R.post_if hq).2 hc36
          replace hc36 := eq_false_of_ne_true hc36
          refine condK_f (congrArg V.bool (hc36)) ?_
          try simp only [wp_skip, RC]
          refine Wk.same ?_
          try simp only [RC]
          rw [wp_seq]
          refine wp_region_i (by rfl) ?_
          simp only [go_sem, ↓evs_eq, Nat.reduceAdd, ↓reduceIte, Nat.reduceEqDiff, Nat.reduceBEq, Nat.reduceBNe, Nat.reduceLT, Int.reduceToNat, Int.reduceEq, Int.reduceLT, Int.reduceLE, reduceCtorEq, Nat.reduceMul, Nat.reduceLeDiff, S_api_Node.enc_eq]
          rw [wp_ret]
          simp only [retQ, results, resultAll, resultOne, Nat.zero_add, scopeQ, go_sem, ↓evs_eq, Nat.reduceAdd, ↓reduceIte, Nat.reduceEqDiff, Nat.reduceBEq, Nat.reduceBNe, Nat.reduceLT, Int.reduceToNat, Int.reduceEq, Int.reduceLT, Int.reduceLE, reduceCtorEq, Nat.reduceMul, Nat.reduceLeDiff, S_api_Node.enc_eq]
          refine ⟨_, (.refl _), ?_⟩
          exact hK _ hq
      · refine wp_region_i (by rfl) ?_
        simp only [go_sem, ↓evs_eq, Nat.reduceAdd, ↓reduceIte, Nat.reduceEqDiff, Nat.reduceBEq, Nat.reduceBNe, Nat.reduceLT, Int.reduceToNat, Int.reduceEq, Int.reduceLT, Int.reduceLE, reduceCtorEq, Nat.reduceMul, Nat.reduceLeDiff, S_api_Node.enc_eq]
        by_cases hc29 : r8.2 = true
        · replace hq := (R.post_if hq).1 hc29
          simp only [hc29, go_sem, ↓evs_eq, Nat.reduceAdd, ↓reduceIte, Nat.reduceEqDiff, Nat.reduceBEq, Nat.reduceBNe, Nat.reduceLT, Int.reduceToNat, Int.reduceEq, Int.reduceLT, Int.reduceLE, reduceCtorEq, Nat.reduceMul, Nat.reduceLeDiff, S_api_Node.enc_eq]
          obtain ⟨K34, hK35, hq⟩ := R.post_cut hq
          refine quote_Digits_call (x0 := r8.1) hq (fun r30 hq => ?_) (fun v hv => ⟨(hX v hv).1, ?_⟩)
          · replace hq := hK35 _ hq
            simp only [go_sem, ↓evs_eq, Nat.reduceAdd, ↓reduceIte, Nat.reduceEqDiff, Nat.reduceBEq, Nat.reduceBNe, Nat.reduceLT, Int.reduceToNat, Int.reduceEq, Int.reduceLT, Int.reduceLE, reduceCtorEq, Nat.reduceMul, Nat.reduceLeDiff, S_api_Node.enc_eq]
            by_cases hc31 : r30 = r4.1
            · replace hq := (R.post_if hq).1 hc31
              simp only [decide_eq_true hc31, go_sem, ↓evs_eq, Nat.reduceAdd, ↓reduceIte, Nat.reduceEqDiff, Nat.reduceBEq, Nat.reduceBNe, Nat.reduceLT, Int.reduceToNat, Int.reduceEq, Int.reduceLT, Int.reduceLE, reduceCtorEq, Nat.reduceMul, Nat.reduceLeDiff, S_api_Node.enc_eq]
              by_cases hc32 : r4.2 = true
              · replace hq := (R.post_if hq).1 hc32
                simp only [hc32, go_sem, ↓evs_eq, Nat.reduceAdd, ↓reduceIte, Nat.reduceEqDiff, Nat.reduceBEq, Nat.reduceBNe, Nat.reduceLT, Int.reduceToNat, Int.reduceEq, Int.reduceLT, Int.reduceLE, reduceCtorEq, Nat.reduceMul, Nat.reduceLeDiff, S_api_Node.enc_eq]
                by_cases hc33 : r8.1 = 0
                · replace hq := (R.post_if hq).1 hc33
                  simp only [decide_eq_true hc33, go_sem, ↓evs_eq, Nat.reduceAdd, ↓reduceIte, Nat.reduceEqDiff, Nat.reduceBEq, Nat.reduceBNe, Nat.reduceLT, Int.reduceToNat, Int.reduceEq, Int.reduceLT, Int.reduceLE, reduceCtorEq, Nat.reduceMul, Nat.reduceLeDiff, S_api_Node.enc_eq]
                  exact hN28 (true, _, true) hq
                · replace hq := (R.post_if hq).2 hc33
                  simp only [decide_eq_false hc33, go_sem, ↓evs_eq, Nat.reduceAdd, ↓reduceIte, Nat.reduceEqDiff, Nat.reduceBEq, Nat.reduceBNe, Nat.reduceLT, Int.reduceToNat, Int.reduceEq, Int.reduceLT, Int.reduceLE, reduceCtorEq, Nat.reduceMul, Nat.reduceLeDiff, S_api_Node.enc_eq]
                  exact hN28 (true, _, (decide ((9223372036854775808 : Int) < r8.1))) hq
              · replace hq := (R.post_if hq).2 hc32
                replace hc32 := eq_false_of_ne_true hc32
                simp only [hc32, go_sem, ↓evs_eq, Nat.reduceAdd, ↓reduceIte, Nat.reduceEqDiff, Nat.reduceBEq, Nat.reduceBNe, Nat.reduceLT, Int.reduceToNat, Int.reduceEq, Int.reduceLT, Int.reduceLE, reduceCtorEq, Nat.reduceMul, Nat.reduceLeDiff, S_api_Node.enc_eq]
                exact hN28 (false, _, false) hq
            · replace hq := (R.post_if hq).2 hc31
              simp only [decide_eq_false hc31, go_sem, ↓evs_eq, Nat.reduceAdd, ↓reduceIte, Nat.reduceEqDiff, Nat.reduceBEq, Nat.reduceBNe, Nat.reduceLT, Int.reduceToNat, Int.reduceEq, Int.reduceLT, Int.reduceLE, reduceCtorEq, Nat.reduceMul, Nat.reduceLeDiff, S_api_Node.enc_eq]
              exact hN28 (r4.2, _, true) hq
          · simp only [RC, scopeQ, retQ, ↓reduceIte, Bool.false_eq_true]
            exact (hX _ hv).2
        · replace hq := (R.post_if hq).2 hc29
          replace hc29 := eq_false_of_ne_true hc29
          simp only [hc29, go_sem, ↓evs_eq, Nat.reduceAdd, ↓reduceIte, Nat.reduceEqDiff, Nat.reduceBEq, Nat.reduceBNe, Nat.reduceLT, Int.reduceToNat, Int.reduceEq, Int.reduceLT, Int.reduceLE, reduceCtorEq, Nat.reduceMul, Nat.reduceLeDiff, S_api_Node.enc_eq]
          exact hN28 (r4.2, _, true) hq
    · simp only [RC, scopeQ, retQ, ↓reduceIte, Bool.false_eq_true]
      exact (hX _ hv).2
  · simp only [RC, scopeQ, retQ, ↓reduceIte, Bool.false_eq_true]
    exact (hX _ hv).2

def lower_Whole (x0 : Int) (x1 : List UInt8) : R (Int × Bool) :=
  (lower_Bounds x0).bind fun r4 => (node_Int x1).bind fun r8 => (if r8.2.2 = true then (R.ok (decide (r4.1 = 0))) else (R.ok true)).bind fun x22m14 => if x22m14 = true then (R.ok (0, false)) else (if r8.2.1 = true then (R.ok ((IntKind.wrap .u64 (0 - r8.1)), (decide (r8.1 ≤ r4.2)))) else (R.ok (r8.1, (decide (r8.1 ≤ r4.1)))))
theorem lower_Whole_call {h : H} {x0 : Int} {x1 : List UInt8} {Q : Out → H → Prop} {KK : (Int × Bool) → Prop} {X : V → Prop} (hq : (lower_Whole x0 x1).post KK X) (hK : ∀ r, KK r → Q (.ret (.tup [.int .u64 r.1, .bool r.2])) h) (hX : ∀ v, X v → V.Cl 0 v ∧ Q (.panic v) h) : CA qprim 17 [.int .i64 x0, .str x1] h Q := by
  refine acalln hp Tryz.func17 rfl (by kernel_rfl) (n := 40) rfl (rs := [.tmp 4, .tmp 5]) rfl [0, 1, 4, 5, 6, 7, 8, 9, 10, 22, 29] [] false (by simp) ?_
  unfold lower_Whole at hq
  simp only [initEnv, List.map_cons, List.map_nil, List.getD_cons_zero, List.getD_cons_succ, List.getD_nil, V.demote]
  rw [wp_seq]
  refine wp_region_i (by rfl) ?_
  simp only [go_sem, ↓evs_eq, Nat.reduceAdd, ↓reduceIte, Nat.reduceEqDiff, Nat.reduceBEq, Nat.reduceBNe, Nat.reduceLT, Int.reduceToNat, Int.reduceEq, Int.reduceLT, Int.reduceLE, reduceCtorEq, Nat.reduceMul, Nat.reduceLeDiff, S_api_Node.enc_eq]
  rw [wp_seq]
  refine wp_region_i (by rfl) ?_
  simp only [go_sem, ↓evs_eq, Nat.reduceAdd, ↓reduceIte, Nat.reduceEqDiff, Nat.reduceBEq, Nat.reduceBNe, Nat.reduceLT, Int.reduceToNat, Int.reduceEq, Int.reduceLT, Int.reduceLE, reduceCtorEq, Nat.reduceMul, Nat.reduceLeDiff, S_api_Node.enc_eq]
  obtain ⟨K23, hK24, hq⟩ := R.post_cut hq
  refine lower_Bounds_call (x0 := x0) hq (fun r4 hq => ?_) (fun v hv => ⟨(hX v hv).1, ?_⟩)
  · replace hq := hK24 _ hq
    simp only [go_sem, ↓evs_eq, Nat.reduceAdd, ↓reduceIte, Nat.reduceEqDiff, Nat.reduceBEq, Nat.reduceBNe, Nat.reduceLT, Int.reduceToNat, Int.reduceEq, Int.reduceLT, Int.reduceLE, reduceCtorEq, Nat.reduceMul, Nat.reduceLeDiff, S_api_Node.enc_eq]
    rw [wp_seq]
    refine wp_region_i (by rfl) ?_
    simp only [go_sem, ↓evs_eq, Nat.reduceAdd, ↓reduceIte, Nat.reduceEqDiff, Nat.reduceBEq, Nat.reduceBNe, Nat.reduceLT, Int.reduceToNat, Int.reduceEq, Int.reduceLT, Int.reduceLE, reduceCtorEq, Nat.reduceMul, Nat.reduceLeDiff, S_api_Node.enc_eq]
    obtain ⟨K21, hK22, hq⟩ := R.post_cut hq
    refine node_Int_call (x0 := x1) hq (fun r8 hq => ?_) (fun v hv => ⟨(hX v hv).1, ?_⟩)
    · replace hq := hK22 _ hq
      simp only [go_sem, ↓evs_eq, Nat.reduceAdd, ↓reduceIte, Nat.reduceEqDiff, Nat.reduceBEq, Nat.reduceBNe, Nat.reduceLT, Int.reduceToNat, Int.reduceEq, Int.reduceLT, Int.reduceLE, reduceCtorEq, Nat.reduceMul, Nat.reduceLeDiff, S_api_Node.enc_eq]
      rw [wp_seq]
      rw [wp_block]
      obtain ⟨K15, hK16, hq⟩ := R.post_cut hq
      refine seq_gen (acall_mono hp) (σ := V × Bool) (fun s => [(0, .int .i64 x0), (1, .str x1), (4, .int .u64 0), (5, .bool false), (6, .int .u64 r4.1), (7, .int .u64 r4.2), (8, .int .u64 r8.1), (9, .bool r8.2.1), (10, s.1), (22, .bool s.2), (29, .top)]) (fun s => h) (fun s => K15 s.2) (fun s hq => ?_) (fun N hN17 => ?_)
      · obtain ⟨y10m14, x22m14⟩ := s
        replace hq := hK16 _ hq
        try dsimp only at hq ⊢
        rw [wp_cond]
        simp only [go_sem, ↓evs_eq, Nat.reduceAdd, ↓reduceIte, Nat.reduceEqDiff, Nat.reduceBEq, Nat.reduceBNe, Nat.reduceLT, Int.reduceToNat, Int.reduceEq, Int.reduceLT, Int.reduceLE, reduceCtorEq, Nat.reduceMul, Nat.reduceLeDiff, S_api_Node.enc_eq]
        by_cases hc19 : x22m14 = true
        · replace hq := (R.post_if hq).1 hc19
          refine condK_t (congrArg V.bool (hc19)) ?_
          rw [wp_seq]
          refine wp_region_i (by rfl) ?_
          simp only [go_sem, ↓evs_eq, Nat.reduceAdd, ↓reduceIte, Nat.reduceEqDiff, Nat.reduceBEq, Nat.reduceBNe, Nat.reduceLT, Int.reduceToNat, Int.reduceEq, Int.reduceLT, Int.reduceLE, reduceCtorEq, Nat.reduceMul, Nat.reduceLeDiff, S_api_Node.enc_eq]
          rw [wp_ret]
          simp only [retQ, results, resultAll, resultOne, Nat.zero_add, scopeQ, go_sem, ↓evs_eq, Nat.reduceAdd, ↓reduceIte, Nat.reduceEqDiff, Nat.reduceBEq, Nat.reduceBNe, Nat.reduceLT, Int.reduceToNat, Int.reduceEq, Int.reduceLT, Int.reduceLE, reduceCtorEq, Nat.reduceMul, Nat.reduceLeDiff, S_api_Node.enc_eq]
          refine ⟨_, (.refl _), ?_⟩
          exact hK _ hq
        · replace hq := (R.post_if hq).2 hc19
          replace hc19 := eq_false_of_ne_true hc19
          refine condK_f (congrArg V.bool (hc19)) ?_
          rw [wp_seq]
          refine wp_region_i (by rfl) ?_
          simp only [go_sem, ↓evs_eq, Nat.reduceAdd, ↓reduceIte, Nat.reduceEqDiff, Nat.reduceBEq, Nat.reduceBNe, Nat.reduceLT, Int.reduceToNat, Int.reduceEq, Int.reduceLT, Int.reduceLE, reduceCtorEq, Nat.reduceMul, Nat.reduceLeDiff, S_api_Node.enc_eq]
          rw [wp_cond]
          simp only [go_sem, ↓evs_eq, Nat.reduceAdd, ↓reduceIte, Nat.reduceEqDiff, Nat.reduceBEq, Nat.reduceBNe, Nat.reduceLT, Int.reduceToNat, Int.reduceEq, Int.reduceLT, Int.reduceLE, reduceCtorEq, Nat.reduceMul, Nat.reduceLeDiff, S_api_Node.enc_eq]
          by_cases hc20 : r8.2.1 = true
          · replace hq := (R.post_if hq).1 hc20
            refine condK_t (congrArg V.bool (hc20)) ?_
            rw [wp_seq]
            refine wp_region_i (by rfl) ?_
            simp only [go_sem, ↓evs_eq, Nat.reduceAdd, ↓reduceIte, Nat.reduceEqDiff, Nat.reduceBEq, Nat.reduceBNe, Nat.reduceLT, Int.reduceToNat, Int.reduceEq, Int.reduceLT, Int.reduceLE, reduceCtorEq, Nat.reduceMul, Nat.reduceLeDiff, S_api_Node.enc_eq]
            rw [wp_ret]
            simp only [retQ, results, resultAll, resultOne, Nat.zero_add, scopeQ, go_sem, ↓evs_eq, Nat.reduceAdd, ↓reduceIte, Nat.reduceEqDiff, Nat.reduceBEq, Nat.reduceBNe, Nat.reduceLT, Int.reduceToNat, Int.reduceEq, Int.reduceLT, Int.reduceLE, reduceCtorEq, Nat.reduceMul, Nat.reduceLeDiff, S_api_Node.enc_eq]
            refine ⟨_, (.refl _), ?_⟩
            exact hK _ hq
          · replace hq := (R.post_if hq).2 hc20
            replace hc20 := eq_false_of_ne_true hc20
            refine condK_f (congrArg V.bool (hc20)) ?_
            try simp only [wp_skip, RC]
            refine Wk.same ?_
            try simp only [RC]
            refine Wk.same ?_
            try simp only [RC]
            refine Wk.same ?_
            try simp only [RC]
            rw [wp_seq]
            refine wp_region_i (by rfl) ?_
            simp only [go_sem, ↓evs_eq, Nat.reduceAdd, ↓reduceIte, Nat.reduceEqDiff, Nat.reduceBEq, Nat.reduceBNe, Nat.reduceLT, Int.reduceToNat, Int.reduceEq, Int.reduceLT, Int.reduceLE, reduceCtorEq, Nat.reduceMul, Nat.reduceLeDiff, S_api_Node.enc_eq]
            rw [wp_ret]
            simp only [retQ, results, resultAll, resultOne, Nat.zero_add, scopeQ, go_sem, ↓evs_eq, Nat.reduceAdd, ↓reduceIte, Nat.reduceEqDiff, Nat.reduceBEq, Nat.reduceBNe, Nat.reduceLT, Int.reduceToNat, Int.reduceEq, Int.reduceLT, Int.reduceLE, reduceCtorEq, Nat.reduceMul, Nat.reduceLeDiff, S_api_Node.enc_eq]
            refine ⟨_, (.refl _), ?_⟩
            exact hK _ hq
      · refine wp_region_i (by rfl) ?_
        simp only [go_sem, ↓evs_eq, Nat.reduceAdd, ↓reduceIte, Nat.reduceEqDiff, Nat.reduceBEq, Nat.reduceBNe, Nat.reduceLT, Int.reduceToNat, Int.reduceEq, Int.reduceLT, Int.reduceLE, reduceCtorEq, Nat.reduceMul, Nat.reduceLeDiff, S_api_Node.enc_eq]
        by_cases hc18 : r8.2.2 = true
        · replace hq := (R.post_if hq).1 hc18
          simp only [hc18, go_sem, ↓evs_eq, Nat.reduceAdd, ↓reduceIte, Nat.reduceEqDiff, Nat.reduceBEq, Nat.reduceBNe, Nat.reduceLT, Int.reduceToNat, Int.reduceEq, Int.reduceLT, Int.reduceLE, reduceCtorEq, Nat.reduceMul, Nat.reduceLeDiff, S_api_Node.enc_eq]
          exact hN17 (_, (decide (r4.1 = 0))) hq
        · replace hq := (R.post_if hq).2 hc18
          replace hc18 := eq_false_of_ne_true hc18
          simp only [hc18, go_sem, ↓evs_eq, Nat.reduceAdd, ↓reduceIte, Nat.reduceEqDiff, Nat.reduceBEq, Nat.reduceBNe, Nat.reduceLT, Int.reduceToNat, Int.reduceEq, Int.reduceLT, Int.reduceLE, reduceCtorEq, Nat.reduceMul, Nat.reduceLeDiff, S_api_Node.enc_eq]
          exact hN17 (_, true) hq
    · simp only [RC, scopeQ, retQ, ↓reduceIte, Bool.false_eq_true]
      exact (hX _ hv).2
  · simp only [RC, scopeQ, retQ, ↓reduceIte, Bool.false_eq_true]
    exact (hX _ hv).2

def lower_Default_j0 (x1 : S_api_Node) (x6_18 : Bool) : R ((List UInt8) × Bool) :=
  if x6_18 = true then (R.ok (x1.Text, true)) else (R.ok ([], false))
def lower_Default (x0 : Int) (x1 : S_api_Node) : R ((List UInt8) × Bool) :=
  if x1.Kind = 20 then ((lower_Whole x0 x1.Text).bind fun r26 => lower_Default_j0 x1 r26.2) else (if x1.Kind = 21 then (if x0 = 0 then (lower_Default_j0 x1 true) else (if x0 = 8 then (if x1.Text = ([116, 114, 117, 101]) then (lower_Default_j0 x1 true) else (lower_Default_j0 x1 (decide (x1.Text = ([102, 97, 108, 115, 101]))))) else (lower_Default_j0 x1 false))) else (if x1.Kind = 22 then (if x0 = 9 then (lower_Default_j0 x1 true) else (lower_Default_j0 x1 (decide (x0 = 12)))) else (lower_Default_j0 x1 false)))
theorem lower_Default_call {h : H} {x0 : Int} {x1 : S_api_Node} {Q : Out → H → Prop} {KK : ((List UInt8) × Bool) → Prop} {X : V → Prop} (hq : (lower_Default x0 x1).post KK X) (hK : ∀ r, KK r → Q (.ret (.tup [.str r.1, .bool r.2])) h) (hX : ∀ v, X v → V.Cl 0 v ∧ Q (.panic v) h) : CA qprim 11 [.int .i64 x0, .agg [.int .i64 x1.Kind, .str x1.Text, .int .i64 x1.N, .int .i64 x1.M, .int .i64 x1.A, .int .i64 x1.At, .str x1.Doc, .sl 8 (List.map S_api_Node.enc x1.Kids)]] h Q := by
  refine acalln hp Tryz.func11 rfl (by kernel_rfl) (n := 48) rfl (rs := [.tmp 4, .tmp 5]) rfl [0, 1, 3, 4, 5, 6, 8, 9, 18, 36, 45] [] true (by simp) ?_
  unfold lower_Default at hq
  simp only [initEnv, List.map_cons, List.map_nil, List.getD_cons_zero, List.getD_cons_succ, List.getD_nil, V.demote]
  rw [wp_seq]
  refine wp_region_i (by rfl) ?_
  simp only [go_sem, ↓evs_eq, Nat.reduceAdd, ↓reduceIte, Nat.reduceEqDiff, Nat.reduceBEq, Nat.reduceBNe, Nat.reduceLT, Int.reduceToNat, Int.reduceEq, Int.reduceLT, Int.reduceLE, reduceCtorEq, Nat.reduceMul, Nat.reduceLeDiff, S_api_Node.enc_eq]
  rw [wp_seq]
  refine wp_region_i (by rfl) ?_
  simp only [go_sem, ↓evs_eq, Nat.reduceAdd, ↓reduceIte, Nat.reduceEqDiff, Nat.reduceBEq, Nat.reduceBNe, Nat.reduceLT, Int.reduceToNat, Int.reduceEq, Int.reduceLT, Int.reduceLE, reduceCtorEq, Nat.reduceMul, Nat.reduceLeDiff, S_api_Node.enc_eq]
  refine seq_gen (acall_mono hp) (σ := Bool × V × V × V × V) (fun s => [(0, .int .i64 x0), (1, .agg [.int .i64 x1.Kind, .str x1.Text, .int .i64 x1.N, .int .i64 x1.M, .int .i64 x1.A, .int .i64 x1.At, .str x1.Doc, .sl 8 (List.map S_api_Node.enc x1.Kids)]), (3, .ref h.length 0), (4, .str []), (5, .bool false), (6, .bool s.1), (8, s.2.1), (9, s.2.2.1), (18, s.2.2.2.1), (36, s.2.2.2.2), (45, .top)]) (fun s => h ++ [.cells 28 [.int .i64 x1.Kind, .str x1.Text, .int .i64 x1.N, .int .i64 x1.M, .int .i64 x1.A, .int .i64 x1.At, .str x1.Doc, .sl 8 (List.map S_api_Node.enc x1.Kids)]]) (fun s => (lower_Default_j0 x1 s.1).post KK X) (fun s hq => ?_) (fun N hN21 => ?_)
  · obtain ⟨x6_18, y8_18, y9_18, y18_18, y36_18⟩ := s
    try dsimp only at hq ⊢
    unfold lower_Default_j0 at hq
    rw [wp_seq]
    rw [wp_seq]
    refine wp_region_i (by rfl) ?_
    simp only [go_sem, ↓evs_eq, Nat.reduceAdd, ↓reduceIte, Nat.reduceEqDiff, Nat.reduceBEq, Nat.reduceBNe, Nat.reduceLT, Int.reduceToNat, Int.reduceEq, Int.reduceLT, Int.reduceLE, reduceCtorEq, Nat.reduceMul, Nat.reduceLeDiff, S_api_Node.enc_eq]
    rw [wp_cond]
    simp only [go_sem, ↓evs_eq, Nat.reduceAdd, ↓reduceIte, Nat.reduceEqDiff, Nat.reduceBEq, Nat.reduceBNe, Nat.reduceLT, Int.reduceToNat, Int.reduceEq, Int.reduceLT, Int.reduceLE, reduceCtorEq, Nat.reduceMul, Nat.reduceLeDiff, S_api_Node.enc_eq]
    by_cases hc20 : x6_18 = true
    · replace hq := (R.post_if hq).1 hc20
      refine condK_f (congrArg (fun b => V.bool (!b)) (hc20)) ?_
      try simp only [wp_skip, RC]
      refine Wk.same ?_
      try simp only [RC]
      rw [wp_seq]
      refine wp_region_i (by rfl) ?_
      simp only [go_sem, ↓evs_eq, Nat.reduceAdd, ↓reduceIte, Nat.reduceEqDiff, Nat.reduceBEq, Nat.reduceBNe, Nat.reduceLT, Int.reduceToNat, Int.reduceEq, Int.reduceLT, Int.reduceLE, reduceCtorEq, Nat.reduceMul, Nat.reduceLeDiff, S_api_Node.enc_eq]
      rw [wp_ret]
      simp only [retQ, results, resultAll, resultOne, Nat.zero_add, scopeQ, go_sem, ↓evs_eq, Nat.reduceAdd, ↓reduceIte, Nat.reduceEqDiff, Nat.reduceBEq, Nat.reduceBNe, Nat.reduceLT, Int.reduceToNat, Int.reduceEq, Int.reduceLT, Int.reduceLE, reduceCtorEq, Nat.reduceMul, Nat.reduceLeDiff, S_api_Node.enc_eq]
      refine ⟨_, (.refl _), ?_⟩
      refine leave_ok rfl (.tup _ (cl_cons (.str _) (cl_cons (.bool _) cl_nil))) ?_
      exact hK _ hq
    · replace hq := (R.post_if hq).2 hc20
      replace hc20 := eq_false_of_ne_true hc20
      refine condK_t (congrArg (fun b => V.bool (!b)) (hc20)) ?_
      rw [wp_seq]
      refine wp_region_i (by rfl) ?_
      simp only [go_sem, ↓evs_eq, Nat.reduceAdd, ↓reduceIte, Nat.reduceEqDiff, Nat.reduceBEq, Nat.reduceBNe, Nat.reduceLT, Int.reduceToNat, Int.reduceEq, Int.reduceLT, Int.reduceLE, reduceCtorEq, Nat.reduceMul, Nat.reduceLeDiff, S_api_Node.enc_eq]
      rw [wp_ret]
      simp only [retQ, results, resultAll, resultOne, Nat.zero_add, scopeQ, go_sem, ↓evs_eq, Nat.reduceAdd, ↓reduceIte, Nat.reduceEqDiff, Nat.reduceBEq, Nat.reduceBNe, Nat.reduceLT, Int.reduceToNat, Int.reduceEq, Int.reduceLT, Int.reduceLE, reduceCtorEq, Nat.reduceMul, Nat.reduceLeDiff, S_api_Node.enc_eq]
      refine ⟨_, (.refl _), ?_⟩
      refine leave_ok rfl (.tup _ (cl_cons (.str _) (cl_cons (.bool _) cl_nil))) ?_
      exact hK _ hq
  · rw [wp_seq]
    refine wp_region_i (by rfl) ?_
    simp only [go_sem, ↓evs_eq, Nat.reduceAdd, ↓reduceIte, Nat.reduceEqDiff, Nat.reduceBEq, Nat.reduceBNe, Nat.reduceLT, Int.reduceToNat, Int.reduceEq, Int.reduceLT, Int.reduceLE, reduceCtorEq, Nat.reduceMul, Nat.reduceLeDiff, S_api_Node.enc_eq]
    rw [wp_block]
    rw [wp_seq]
    refine wp_region_i (by rfl) ?_
    simp only [go_sem, ↓evs_eq, Nat.reduceAdd, ↓reduceIte, Nat.reduceEqDiff, Nat.reduceBEq, Nat.reduceBNe, Nat.reduceLT, Int.reduceToNat, Int.reduceEq, Int.reduceLT, Int.reduceLE, reduceCtorEq, Nat.reduceMul, Nat.reduceLeDiff, S_api_Node.enc_eq]
    rw [wp_cond]
    simp only [go_sem, ↓evs_eq, Nat.reduceAdd, ↓reduceIte, Nat.reduceEqDiff, Nat.reduceBEq, Nat.reduceBNe, Nat.reduceLT, Int.reduceToNat, Int.reduceEq, Int.reduceLT, Int.reduceLE, reduceCtorEq, Nat.reduceMul, Nat.reduceLeDiff, S_api_Node.enc_eq]
    by_cases hc22 : x1.Kind = 20
    · replace hq := (R.post_if hq).1 hc22
      refine condK_t (congrArg V.bool (decide_eq_true hc22)) ?_
      refine wp_region_i (by rfl) ?_
      simp only [go_sem, ↓evs_eq, Nat.reduceAdd, ↓reduceIte, Nat.reduceEqDiff, Nat.reduceBEq, Nat.reduceBNe, Nat.reduceLT, Int.reduceToNat, Int.reduceEq, Int.reduceLT, Int.reduceLE, reduceCtorEq, Nat.reduceMul, Nat.reduceLeDiff, S_api_Node.enc_eq]
      obtain ⟨K27, hK28, hq⟩ := R.post_cut hq
      refine lower_Whole_call (x0 := x0) (x1 := x1.Text) hq (fun r26 hq => ?_) (fun v hv => ⟨(hX v hv).1, ?_⟩)
      · replace hq := hK28 _ hq
        simp only [go_sem, ↓evs_eq, Nat.reduceAdd, ↓reduceIte, Nat.reduceEqDiff, Nat.reduceBEq, Nat.reduceBNe, Nat.reduceLT, Int.reduceToNat, Int.reduceEq, Int.reduceLT, Int.reduceLE, reduceCtorEq, Nat.reduceMul, Nat.reduceLeDiff, S_api_Node.enc_eq]
        refine Wk.le (EnvLe.cons (.refl _) (EnvLe.cons (.refl _) (EnvLe.cons (.refl _) (EnvLe.cons (.refl _) (EnvLe.cons (.refl _) (EnvLe.cons (.refl _) (EnvLe.cons (.top _) (EnvLe.cons (.top _) (EnvLe.cons (.refl _) (EnvLe.cons (.refl _) (EnvLe.cons (.refl _) EnvLe.nil))))))))))) ?_
        try simp only [RC]
        refine Wk.same ?_
        try simp only [RC]
        exact hN21 (r26.2, _, _, _, _) hq
      · simp only [RC, scopeQ, retQ, ↓reduceIte, Bool.false_eq_true]
        exact leaveP_ok ((hX _ hv).1.mono (Nat.zero_le _)) (hX _ hv).2
    · replace hq := (R.post_if hq).2 hc22
      refine condK_f (congrArg V.bool (decide_eq_false hc22)) ?_
      rw [wp_seq]
      refine wp_region_i (by rfl) ?_
      simp only [go_sem, ↓evs_eq, Nat.reduceAdd, ↓reduceIte, Nat.reduceEqDiff, Nat.reduceBEq, Nat.reduceBNe, Nat.reduceLT, Int.reduceToNat, Int.reduceEq, Int.reduceLT, Int.reduceLE, reduceCtorEq, Nat.reduceMul, Nat.reduceLeDiff, S_api_Node.enc_eq]
      rw [wp_cond]
      simp only [go_sem, ↓evs_eq, Nat.reduceAdd, ↓reduceIte, Nat.reduceEqDiff, Nat.reduceBEq, Nat.reduceBNe, Nat.reduceLT, Int.reduceToNat, Int.reduceEq, Int.reduceLT, Int.reduceLE, reduceCtorEq, Nat.reduceMul, Nat.reduceLeDiff, S_api_Node.enc_eq]
      by_cases hc29 : x1.Kind = 21
      · replace hq := (R.post_if hq).1 hc29
        refine condK_t (congrArg V.bool (decide_eq_true hc29)) ?_
        refine wp_region_i (by rfl) ?_
        simp only [go_sem, ↓evs_eq, Nat.reduceAdd, ↓reduceIte, Nat.reduceEqDiff, Nat.reduceBEq, Nat.reduceBNe, Nat.reduceLT, Int.reduceToNat, Int.reduceEq, Int.reduceLT, Int.reduceLE, reduceCtorEq, Nat.reduceMul, Nat.reduceLeDiff, S_api_Node.enc_eq]
        by_cases hc33 : x0 = 0
        · replace hq := (R.post_if hq).1 hc33
          simp only [decide_eq_true hc33, go_sem, ↓evs_eq, Nat.reduceAdd, ↓reduceIte, Nat.reduceEqDiff, Nat.reduceBEq, Nat.reduceBNe, Nat.reduceLT, Int.reduceToNat, Int.reduceEq, Int.reduceLT, Int.reduceLE, reduceCtorEq, Nat.reduceMul, Nat.reduceLeDiff, S_api_Node.enc_eq]
          refine Wk.le (EnvLe.cons (.refl _) (EnvLe.cons (.refl _) (EnvLe.cons (.refl _) (EnvLe.cons (.refl _) (EnvLe.cons (.refl _) (EnvLe.cons (.refl _) (EnvLe.cons (.top _) (EnvLe.cons (.top _) (EnvLe.cons (.top _) (EnvLe.cons (.refl _) (EnvLe.cons (.refl _) EnvLe.nil))))))))))) ?_
          try simp only [RC]
          refine Wk.same ?_
          try simp only [RC]
          refine Wk.same ?_
          try simp only [RC]
          exact hN21 (true, _, _, _, _) hq
        · replace hq := (R.post_if hq).2 hc33
          simp only [decide_eq_false hc33, go_sem, ↓evs_eq, Nat.reduceAdd, ↓reduceIte, Nat.reduceEqDiff, Nat.reduceBEq, Nat.reduceBNe, Nat.reduceLT, Int.reduceToNat, Int.reduceEq, Int.reduceLT, Int.reduceLE, reduceCtorEq, Nat.reduceMul, Nat.reduceLeDiff, S_api_Node.enc_eq]
          by_cases hc34 : x0 = 8
          · replace hq := (R.post_if hq).1 hc34
            simp only [decide_eq_true hc34, go_sem, ↓evs_eq, Nat.reduceAdd, ↓reduceIte, Nat.reduceEqDiff, Nat.reduceBEq, Nat.reduceBNe, Nat.reduceLT, Int.reduceToNat, Int.reduceEq, Int.reduceLT, Int.reduceLE, reduceCtorEq, Nat.reduceMul, Nat.reduceLeDiff, S_api_Node.enc_eq]
            by_cases hc35 : x1.Text = ([116, 114, 117, 101])
            · replace hq := (R.post_if hq).1 hc35
              simp only [decide_eq_true hc35, go_sem, ↓evs_eq, Nat.reduceAdd, ↓reduceIte, Nat.reduceEqDiff, Nat.reduceBEq, Nat.reduceBNe, Nat.reduceLT, Int.reduceToNat, Int.reduceEq, Int.reduceLT, Int.reduceLE, reduceCtorEq, Nat.reduceMul, Nat.reduceLeDiff, S_api_Node.enc_eq]
              refine Wk.le (EnvLe.cons (.refl _) (EnvLe.cons (.refl _) (EnvLe.cons (.refl _) (EnvLe.cons (.refl _) (EnvLe.cons (.refl _) (EnvLe.cons (.refl _) (EnvLe.cons (.top _) (EnvLe.cons (.top _) (EnvLe.cons (.top _) (EnvLe.cons (.refl _) (EnvLe.cons (.refl _) EnvLe.nil))))))))))) ?_
              try simp only [RC]
              refine Wk.same ?_
              try simp only [RC]
              refine Wk.same ?_
              try simp only [RC]
              exact hN21 (true, _, _, _, _) hq
            · replace hq := (R.post_if hq).2 hc35
              simp only [decide_eq_false hc35, go_sem, ↓evs_eq, Nat.reduceAdd, ↓reduceIte, Nat.reduceEqDiff, Nat.reduceBEq, Nat.reduceBNe, Nat.reduceLT, Int.reduceToNat, Int.reduceEq, Int.reduceLT, Int.reduceLE, reduceCtorEq, Nat.reduceMul, Nat.reduceLeDiff, S_api_Node.enc_eq]
              refine Wk.le (EnvLe.cons (.refl _) (EnvLe.cons (.refl _) (EnvLe.cons (.refl _) (EnvLe.cons (.refl _) (EnvLe.cons (.refl _) (EnvLe.cons (.refl _) (EnvLe.cons (.top _) (EnvLe.cons (.top _) (EnvLe.cons (.top _) (EnvLe.cons (.refl _) (EnvLe.cons (.refl _) EnvLe.nil))))))))))) ?_
              try simp only [RC]
              refine Wk.same ?_
              try simp only [RC]
              refine Wk.same ?_
              try simp only [RC]
              exact hN21 ((decide (x1.Text = ([102, 97, 108, 115, 101]))), _, _, _, _) hq
          · replace hq := (R.post_if hq).2 hc34
            simp only [decide_eq_false hc34, go_sem, ↓evs_eq, Nat.reduceAdd, ↓reduceIte, Nat.reduceEqDiff, Nat.reduceBEq, Nat.reduceBNe, Nat.reduceLT, Int.reduceToNat, Int.reduceEq, Int.reduceLT, Int.reduceLE, reduceCtorEq, Nat.reduceMul, Nat.reduceLeDiff, S_api_Node.enc_eq]
            refine Wk.le (EnvLe.cons (.refl _) (EnvLe.cons (.refl _) (EnvLe.cons (.refl _) (EnvLe.cons (.refl _) (EnvLe.cons (.refl _) (EnvLe.cons (.refl _) (EnvLe.cons (.top _) (EnvLe.cons (.top _) (EnvLe.cons (.top _) (EnvLe.cons (.refl _) (EnvLe.cons (.refl _) EnvLe.nil))))))))))) ?_
            try simp only [RC]
            refine Wk.same ?_
            try simp only [RC]
            refine Wk.same ?_
            try simp only [RC]
            exact hN21 (false, _, _, _, _) hq
      · replace hq := (R.post_if hq).2 hc29
        refine condK_f (congrArg V.bool (decide_eq_false hc29)) ?_
        rw [wp_seq]
        refine wp_region_i (by rfl) ?_
        simp only [go_sem, ↓evs_eq, Nat.reduceAdd, ↓reduceIte, Nat.reduceEqDiff, Nat.reduceBEq, Nat.reduceBNe, Nat.reduceLT, Int.reduceToNat, Int.reduceEq, Int.reduceLT, Int.reduceLE, reduceCtorEq, Nat.reduceMul, Nat.reduceLeDiff, S_api_Node.enc_eq]
        rw [wp_cond]
        simp only [go_sem, ↓evs_eq, Nat.reduceAdd, ↓reduceIte, Nat.reduceEqDiff, Nat.reduceBEq, Nat.reduceBNe, Nat.reduceLT, Int.reduceToNat, Int.reduceEq, Int.reduceLT, Int.reduceLE, reduceCtorEq, Nat.reduceMul, Nat.reduceLeDiff, S_api_Node.enc_eq]
        by_cases hc36 : x1.Kind = 22
        · replace hq := (R.post_if hq).1 hc36
          refine condK_t (congrArg V.bool (decide_eq_true hc36)) ?_
          refine wp_region_i (by rfl) ?_
          simp only [go_sem, ↓evs_eq, Nat.reduceAdd, ↓reduceIte, Nat.reduceEqDiff, Nat.reduceBEq, Nat.reduceBNe, Nat.reduceLT, Int.reduceToNat, Int.reduceEq, Int.reduceLT, Int.reduceLE, reduceCtorEq, Nat.reduceMul, Nat.reduceLeDiff, S_api_Node.enc_eq]
          by_cases hc38 : x0 = 9
          · replace hq := (R.post_if hq).1 hc38
            simp only [decide_eq_true hc38, go_sem, ↓evs_eq, Nat.reduceAdd, ↓reduceIte, Nat.reduceEqDiff, Nat.reduceBEq, Nat.reduceBNe, Nat.reduceLT, Int.reduceToNat, Int.reduceEq, Int.reduceLT, Int.reduceLE, reduceCtorEq, Nat.reduceMul, Nat.reduceLeDiff, S_api_Node.enc_eq]
            refine Wk.le (EnvLe.cons (.refl _) (EnvLe.cons (.refl _) (EnvLe.cons (.refl _) (EnvLe.cons (.refl _) (EnvLe.cons (.refl _) (EnvLe.cons (.refl _) (EnvLe.cons (.top _) (EnvLe.cons (.top _) (EnvLe.cons (.top _) (EnvLe.cons (.top _) (EnvLe.cons (.refl _) EnvLe.nil))))))))))) ?_
            try simp only [RC]
            refine Wk.same ?_
            try simp only [RC]
            refine Wk.same ?_
            try simp only [RC]
            refine Wk.same ?_
            try simp only [RC]
            exact hN21 (true, _, _, _, _) hq
          · replace hq := (R.post_if hq).2 hc38
            simp only [decide_eq_false hc38, go_sem, ↓evs_eq, Nat.reduceAdd, ↓reduceIte, Nat.reduceEqDiff, Nat.reduceBEq, Nat.reduceBNe, Nat.reduceLT, Int.reduceToNat, Int.reduceEq, Int.reduceLT, Int.reduceLE, reduceCtorEq, Nat.reduceMul, Nat.reduceLeDiff, S_api_Node.enc_eq]
            refine Wk.le (EnvLe.cons (.refl _) (EnvLe.cons (.refl _) (EnvLe.cons (.refl _) (EnvLe.cons (.refl _) (EnvLe.cons (.refl _) (EnvLe.cons (.refl _) (EnvLe.cons (.top _) (EnvLe.cons (.top _) (EnvLe.cons (.top _) (EnvLe.cons (.top _) (EnvLe.cons (.refl _) EnvLe.nil))))))))))) ?_
            try simp only [RC]
            refine Wk.same ?_
            try simp only [RC]
            refine Wk.same ?_
            try simp only [RC]
            refine Wk.same ?_
            try simp only [RC]
            exact hN21 ((decide (x0 = 12)), _, _, _, _) hq
        · replace hq := (R.post_if hq).2 hc36
          refine condK_f (congrArg V.bool (decide_eq_false hc36)) ?_
          try simp only [wp_skip, RC]
          refine Wk.le (EnvLe.cons (.refl _) (EnvLe.cons (.refl _) (EnvLe.cons (.refl _) (EnvLe.cons (.refl _) (EnvLe.cons (.refl _) (EnvLe.cons (.refl _) (EnvLe.cons (.top _) (EnvLe.cons (.top _) (EnvLe.cons (.top _) (EnvLe.cons (.top _) (EnvLe.cons (.refl _) EnvLe.nil))))))))))) ?_
          try simp only [RC]
          refine Wk.same ?_
          try simp only [RC]
          refine Wk.same ?_
          try simp only [RC]
          refine Wk.same ?_
          try simp only [RC]
          exact hN21 (false, _, _, _, _) hq
end Go.Proofs.YtiigffdmjdooeaaGreatDoor.Pv
