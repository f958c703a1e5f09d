/- slices.Backward's iterator, of wire's fields: its law. -/
import Derived.Test.YtpbnnbjkjaajnaaIA
set_option linter.unusedVariables false
set_option linter.unusedSimpArgs false
set_option maxHeartbeats 4000000
set_option maxRecDepth 10000
namespace Go.Proofs.Ytpbnnbjkjaajnaa.Pv
open Go Go.Proofs
attribute [local go_sem] RC RL RM loadN V.slz V.slz1 lnB V.left V.lenOf slice3 sliceNil Option.getD_none Option.getD_some sliceOp cut upon_each nextM entryOp buildOk lookup lookV update elemOf Option.isSome_map unOp wanted aop tkB rwB neD Env.get Env.put Env.keep putD dstOk ev constV nilSlice V.demote V.toOwn V.asOwn V.cells tyE R1.res binOp isShift binOpT isC intOp strOp shiftOp byteV index indexAddr slice bounds hiB loB withB maxV minV evs pickV lenV builtin initEnv convert K.isU8 strOf load store fieldOf append appT fltOp cpxV realV imagV toInt rangeOp nextOp room fill placeOf splice repl chunks Ty.val Ty.agg V.plain H.row H.ety AObj.row putAll demEnv updH
abbrev yv (l : Nat) : V := .raw (.func (.yield l) ⟨[]⟩ ⟨[]⟩)
theorem wrap64i {n : Int} (h : -9223372036854775808 ≤ n ∧ n ≤ 9223372036854775807) : IntKind.wrap .i64 n = n := wrap64 h
theorem back_law {C : Program} {id : Nat} {xs : List V} {h : H} (h0 : h[id]? = some (.cells 65 [.sl 4 xs])) (hx : ∀ x ∈ xs, ∃ a b c d, x = .agg [a, b, c, d]) (hl : xs.length ≤ 1000000000) : IterLaw Try.prog 46 [.ref id 0] h [id] ((revIdx xs).map backStep) := by
  refine iterLaw_of_wpY (keep := [0, 1, 3, 8, 18]) (tk := []) (n := 19) ty_tab Try.func46 rfl (by kernel_rfl) rfl rfl (by simp) fun l => ?_
  simp only [initEnv, List.map_cons, List.map_nil, List.getD_cons_zero, List.getD_cons_succ, List.getD_nil, V.demote]
  refine y_seq (y_reg ?_)
  have h0' := h0
  simp only [ey_nil, ey_cons, yOp, row_get h0', h0', go_sem, ↓evs_eq, Nat.reduceAdd, ↓reduceIte, Nat.reduceEqDiff, Nat.reduceBEq, Nat.reduceBNe, Nat.reduceLT, Int.reduceToNat, Int.reduceEq, Int.reduceLT, Int.reduceLE, reduceCtorEq, Nat.reduceMul, Nat.reduceLeDiff]
  rw [show IntKind.wrap .i64 ((xs.length : Int) - 1) = (xs.length : Int) - 1 from wrap64i (by omega)]
  refine y_block (y_loop (fun k s env h' => s = ⟨true, (revTo xs k).map backStep, h'⟩ ∧ h'[id]? = some (.cells 65 [.sl 4 xs]) ∧ env = [(0, yv l), (1, .ref id 0), (3, .int .i64 ((k : Int) - 1)), (8, .top), (18, .top)] ∧ k ≤ xs.length) ⟨xs.length, Wk.same ⟨rfl, h0, rfl, Nat.le_refl _⟩⟩ ?_)
  rintro k s env h' - ⟨rfl, h0', rfl, hk⟩ N hN
  refine y_seq (y_seq (y_reg ?_))
  simp only [ey_nil, ey_cons, yOp, row_get h0', h0', go_sem, ↓evs_eq, Nat.reduceAdd, ↓reduceIte, Nat.reduceEqDiff, Nat.reduceBEq, Nat.reduceBNe, Nat.reduceLT, Int.reduceToNat, Int.reduceEq, Int.reduceLT, Int.reduceLE, reduceCtorEq, Nat.reduceMul, Nat.reduceLeDiff]
  cases k with
  | zero =>
    refine y_cond_f (by simp only [go_sem, ↓reduceIte, Nat.reduceEqDiff]; rfl) ?_
    refine y_exit ?_
    simp only [thenQ, ↓reduceIte]
    exact ⟨fun _ => rfl, Wk.same rfl⟩
  | succ i =>
    obtain ⟨a, b, c, d, hxi⟩ := hx _ (List.getElem_mem (show i < xs.length by omega))
    have hdec : decide (((i + 1 : Nat) : Int) - 1 ≥ 0) = true := by simp
    refine y_cond_t (by simp only [go_sem, ↓reduceIte, Nat.reduceEqDiff, hdec]) ?_
    show wpY _ _ _ _ _ _ _ _ _ _ _ _
    have e1 : (((i + 1 : Nat) : Int) - 1) = (i : Int) := by omega
    have hg : xs.getD i .top = .agg [a, b, c, d] := by rw [← hxi]; simp [List.getD, show i < xs.length by omega]
    rw [e1]
    refine y_seq (y_block (y_seq (y_reg ?_)))
    simp only [ey_nil, ey_cons, yOp, row_get h0', h0', hg, go_sem, ↓evs_eq, Nat.reduceAdd, ↓reduceIte, Nat.reduceEqDiff, Nat.reduceBEq, Nat.reduceBNe, Nat.reduceLT, Int.reduceToNat, Int.reduceEq, Int.reduceLT, Int.reduceLE, reduceCtorEq, Nat.reduceMul, Nat.reduceLeDiff, Int.toNat_natCast, List.take_succ_cons, List.take_zero]
    refine ⟨⟨by omega, by omega⟩, ?_⟩
    refine ⟨by simp [dstOk], Wk.same ⟨([], [.int .i64 i, .agg [a, b, c, d]]), (revTo xs i).map backStep, rfl, ?_, ?_, rfl, fun h3 hown => ?_, fun h3 => ?_⟩⟩
    · show List.map backStep (revTo xs (i + 1)) = _
      rw [revTo, show xs[i]? = some (V.agg [a, b, c, d]) from by rw [← hxi]; exact List.getElem?_eq_getElem _]
      rfl
    · simp only [ey_nil, ey_cons, yOp, go_sem, ↓evs_eq, Nat.reduceAdd, ↓reduceIte, Nat.reduceEqDiff, Nat.reduceBEq, Nat.reduceBNe, Nat.reduceLT, Int.reduceToNat, Int.reduceEq, Int.reduceLT, Int.reduceLE, reduceCtorEq, Nat.reduceMul, Nat.reduceLeDiff, Int.toNat_natCast, List.take_succ_cons, List.take_zero]
    · have h3' : h3[id]? = some (.cells 65 [.sl 4 xs]) := by rw [hown id (by simp)]; exact h0'
      simp only [ey_nil, ey_cons, yOp, go_sem, ↓evs_eq, Nat.reduceAdd, ↓reduceIte, Nat.reduceEqDiff, Nat.reduceBEq, Nat.reduceBNe, Nat.reduceLT, Int.reduceToNat, Int.reduceEq, Int.reduceLT, Int.reduceLE, reduceCtorEq, Nat.reduceMul, Nat.reduceLeDiff, Int.toNat_natCast, List.take_succ_cons, List.take_zero]
      refine y_cond_f (by simp only [go_sem, ↓reduceIte, Nat.reduceEqDiff]) (y_skip ?_)
      simp only [thenQ]
      refine y_reg ?_
      simp only [ey_nil, ey_cons, yOp, go_sem, ↓evs_eq, Nat.reduceAdd, ↓reduceIte, Nat.reduceEqDiff, Nat.reduceBEq, Nat.reduceBNe, Nat.reduceLT, Int.reduceToNat, Int.reduceEq, Int.reduceLT, Int.reduceLE, reduceCtorEq, Nat.reduceMul, Nat.reduceLeDiff, Int.toNat_natCast, List.take_succ_cons, List.take_zero]
      rw [show IntKind.wrap .i64 ((i : Int) - 1) = (i : Int) - 1 from wrap64i (by omega)]
      exact Wk.le (EnvLe.cons (.refl _) (EnvLe.cons (.refl _) (EnvLe.cons (.refl _) (EnvLe.cons (.top _) (EnvLe.cons (.top _) EnvLe.nil))))) (hN i (by omega) _ _ _ ⟨rfl, h3', rfl, by omega⟩)
    · simp only [ey_nil, ey_cons, yOp, go_sem, ↓evs_eq, Nat.reduceAdd, ↓reduceIte, Nat.reduceEqDiff, Nat.reduceBEq, Nat.reduceBNe, Nat.reduceLT, Int.reduceToNat, Int.reduceEq, Int.reduceLT, Int.reduceLE, reduceCtorEq, Nat.reduceMul, Nat.reduceLeDiff, Int.toNat_natCast, List.take_succ_cons, List.take_zero]
      refine y_cond_t (by simp only [go_sem, ↓reduceIte, Nat.reduceEqDiff]) (y_ret ?_)
      simp only [thenQ]
      exact ⟨fun e => (by cases e), Wk.same rfl⟩
end Go.Proofs.Ytpbnnbjkjaajnaa.Pv
