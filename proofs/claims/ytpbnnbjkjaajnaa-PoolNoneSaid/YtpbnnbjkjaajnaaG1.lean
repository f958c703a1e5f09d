/- Functions of the program, as plain Lean functions, and that the code comes to them: printed by gen.py. -/
import Derived.Test.YtpbnnbjkjaajnaaG0
set_option linter.unusedVariables false
set_option linter.unusedSimpArgs false
set_option maxHeartbeats 4000000
set_option maxRecDepth 10000
namespace Go.Proofs.Ytpbnnbjkjaajnaa.Pv
open Go Go.Proofs

attribute [local go_sem] RC RL RM loadN V.slz V.slz1 lnB V.left V.lenOf slice3 sliceNil Option.getD_none Option.getD_some sliceOp cut upon_each nextM entryOp buildOk lookup lookV update elemOf Option.isSome_map unOp wanted aop tkB rwB neD Env.get Env.put Env.keep putD dstOk ev constV nilSlice V.demote V.toOwn V.asOwn V.cells tyE R1.res binOp isShift binOpT isC intOp strOp shiftOp byteV index indexAddr slice bounds hiB loB withB maxV minV evs pickV lenV builtin initEnv convert K.isU8 strOf load store fieldOf append appT fltOp cpxV realV imagV toInt rangeOp nextOp room fill placeOf splice repl chunks Ty.val Ty.agg V.plain H.row H.ety AObj.row S_api_Message.enc_eq S_api_Field.enc S_api_Enum.enc S_api_Value.enc S_api_Range.enc S_api_Oneof.enc S_api_File.enc S_api_Service.enc S_api_Method.enc
def pool_Pool_get (x1 : List UInt8) : R (Unit) :=
  R.ok ()
theorem pool_Pool_get_call {h : H} {x1 : List UInt8} {Q : Out → H → Prop} {KK : (Unit) → Prop} {X : V → Prop} (hq : (pool_Pool_get x1).post KK X) (hK : ∀ r, KK r → Q (.ret (.nilp)) h) (hX : ∀ v, X v → V.Cl 0 v ∧ Q (.panic v) h) : CA qprim 30 [.nilp, .str x1] h Q := by
  refine acalln hp Try.func30 rfl (by kernel_rfl) (n := 13) rfl (rs := [.tmp 4]) rfl [0, 1, 4, 6] [] false (by simp) ?_
  unfold pool_Pool_get at hq
  simp only [initEnv, List.map_cons, List.map_nil, List.getD_cons_zero, List.getD_cons_succ, List.getD_nil, V.demote]
  rw [wp_seq]
  refine wp_region_i (by rfl) ?_
  simp only [go_sem, ↓evs_eq, Nat.reduceAdd, ↓reduceIte, Nat.reduceEqDiff, Nat.reduceBEq, Nat.reduceBNe, Nat.reduceLT, Int.reduceToNat, Int.reduceEq, Int.reduceLT, Int.reduceLE, reduceCtorEq, Nat.reduceMul, Nat.reduceLeDiff]
  rw [wp_seq]
  rw [wp_seq]
  refine wp_region_i (by rfl) ?_
  simp only [go_sem, ↓evs_eq, Nat.reduceAdd, ↓reduceIte, Nat.reduceEqDiff, Nat.reduceBEq, Nat.reduceBNe, Nat.reduceLT, Int.reduceToNat, Int.reduceEq, Int.reduceLT, Int.reduceLE, reduceCtorEq, Nat.reduceMul, Nat.reduceLeDiff]
  rw [wp_cond]
  simp only [go_sem, ↓evs_eq, Nat.reduceAdd, ↓reduceIte, Nat.reduceEqDiff, Nat.reduceBEq, Nat.reduceBNe, Nat.reduceLT, Int.reduceToNat, Int.reduceEq, Int.reduceLT, Int.reduceLE, reduceCtorEq, Nat.reduceMul, Nat.reduceLeDiff]
  rw [condK_tt]
  rw [wp_seq]
  refine wp_region_i (by rfl) ?_
  simp only [go_sem, ↓evs_eq, Nat.reduceAdd, ↓reduceIte, Nat.reduceEqDiff, Nat.reduceBEq, Nat.reduceBNe, Nat.reduceLT, Int.reduceToNat, Int.reduceEq, Int.reduceLT, Int.reduceLE, reduceCtorEq, Nat.reduceMul, Nat.reduceLeDiff]
  rw [wp_ret]
  simp only [retQ, results, resultAll, resultOne, Nat.zero_add, scopeQ, go_sem, ↓evs_eq, Nat.reduceAdd, ↓reduceIte, Nat.reduceEqDiff, Nat.reduceBEq, Nat.reduceBNe, Nat.reduceLT, Int.reduceToNat, Int.reduceEq, Int.reduceLT, Int.reduceLE, reduceCtorEq, Nat.reduceMul, Nat.reduceLeDiff]
  refine ⟨_, (.refl _), ?_⟩
  exact hK _ hq

def pool_Pool_of (x1 : List UInt8) (x2 : Int) : R (Unit) :=
  (pool_Pool_get x1).bind fun r10 => R.ok ()
theorem pool_Pool_of_call {h : H} {x1 : List UInt8} {x2 : Int} {Q : Out → H → Prop} {KK : (Unit) → Prop} {X : V → Prop} (hq : (pool_Pool_of x1 x2).post KK X) (hK : ∀ r, KK r → Q (.ret (.nilp)) h) (hX : ∀ v, X v → V.Cl 0 v ∧ Q (.panic v) h) : CA qprim 24 [.nilp, .str x1, .int .i64 x2] h Q := by
  refine acalln hp Try.func24 rfl (by kernel_rfl) (n := 22) rfl (rs := [.tmp 6]) rfl [0, 1, 2, 6, 7, 20] [] false (by simp) ?_
  unfold pool_Pool_of at hq
  simp only [initEnv, List.map_cons, List.map_nil, List.getD_cons_zero, List.getD_cons_succ, List.getD_nil, V.demote]
  rw [wp_seq]
  refine wp_region_i (by rfl) ?_
  simp only [go_sem, ↓evs_eq, Nat.reduceAdd, ↓reduceIte, Nat.reduceEqDiff, Nat.reduceBEq, Nat.reduceBNe, Nat.reduceLT, Int.reduceToNat, Int.reduceEq, Int.reduceLT, Int.reduceLE, reduceCtorEq, Nat.reduceMul, Nat.reduceLeDiff]
  rw [wp_seq]
  rw [wp_seq]
  refine wp_region_i (by rfl) ?_
  simp only [go_sem, ↓evs_eq, Nat.reduceAdd, ↓reduceIte, Nat.reduceEqDiff, Nat.reduceBEq, Nat.reduceBNe, Nat.reduceLT, Int.reduceToNat, Int.reduceEq, Int.reduceLT, Int.reduceLE, reduceCtorEq, Nat.reduceMul, Nat.reduceLeDiff]
  obtain ⟨K11, hK12, hq⟩ := R.post_cut hq
  refine pool_Pool_get_call (x1 := x1) hq (fun r10 hq => ?_) (fun v hv => ⟨(hX v hv).1, ?_⟩)
  · replace hq := hK12 _ hq
    simp only [go_sem, ↓evs_eq, Nat.reduceAdd, ↓reduceIte, Nat.reduceEqDiff, Nat.reduceBEq, Nat.reduceBNe, Nat.reduceLT, Int.reduceToNat, Int.reduceEq, Int.reduceLT, Int.reduceLE, reduceCtorEq, Nat.reduceMul, Nat.reduceLeDiff]
    rw [wp_seq]
    refine wp_region_i (by rfl) ?_
    simp only [go_sem, ↓evs_eq, Nat.reduceAdd, ↓reduceIte, Nat.reduceEqDiff, Nat.reduceBEq, Nat.reduceBNe, Nat.reduceLT, Int.reduceToNat, Int.reduceEq, Int.reduceLT, Int.reduceLE, reduceCtorEq, Nat.reduceMul, Nat.reduceLeDiff]
    rw [wp_cond]
    simp only [go_sem, ↓evs_eq, Nat.reduceAdd, ↓reduceIte, Nat.reduceEqDiff, Nat.reduceBEq, Nat.reduceBNe, Nat.reduceLT, Int.reduceToNat, Int.reduceEq, Int.reduceLT, Int.reduceLE, reduceCtorEq, Nat.reduceMul, Nat.reduceLeDiff]
    rw [condK_ff]
    try simp only [wp_skip, RC]
    refine Wk.same ?_
    try simp only [RC]
    rw [wp_seq]
    refine wp_region_i (by rfl) ?_
    simp only [go_sem, ↓evs_eq, Nat.reduceAdd, ↓reduceIte, Nat.reduceEqDiff, Nat.reduceBEq, Nat.reduceBNe, Nat.reduceLT, Int.reduceToNat, Int.reduceEq, Int.reduceLT, Int.reduceLE, reduceCtorEq, Nat.reduceMul, Nat.reduceLeDiff]
    rw [wp_ret]
    simp only [retQ, results, resultAll, resultOne, Nat.zero_add, scopeQ, go_sem, ↓evs_eq, Nat.reduceAdd, ↓reduceIte, Nat.reduceEqDiff, Nat.reduceBEq, Nat.reduceBNe, Nat.reduceLT, Int.reduceToNat, Int.reduceEq, Int.reduceLT, Int.reduceLE, reduceCtorEq, Nat.reduceMul, Nat.reduceLeDiff]
    refine ⟨_, (.refl _), ?_⟩
    exact hK _ hq
  · simp only [RC, scopeQ, retQ, ↓reduceIte, Bool.false_eq_true]
    exact (hX _ hv).2

def pool_Pool_Message (x1 : List UInt8) : R (S_api_Message × Bool) :=
  (pool_Pool_of x1 2).bind fun r10 => R.ok ((S_api_Message.mk [] [] [] [] [] [] [] [] [] [] []), false)
theorem pool_Pool_Message_call {h : H} {x1 : List UInt8} {Q : Out → H → Prop} {KK : (S_api_Message × Bool) → Prop} {X : V → Prop} (hq : (pool_Pool_Message x1).post KK X) (hK : ∀ r, KK r → Q (.ret (.tup [.agg [.str r.1.Name, .sl 13 (List.map S_api_Field.enc r.1.Fields), .sl 11 (List.map S_api_Message.enc r.1.Nested), .sl 4 (List.map S_api_Enum.enc r.1.Enums), .sl 2 (List.map S_api_Range.enc r.1.Ranges), .sl 13 (List.map S_api_Field.enc r.1.Extends), .sl 3 (List.map S_api_Oneof.enc r.1.Oneofs), .sl 2 (List.map S_api_Range.enc r.1.Reserved), .sl 1 (List.map V.str r.1.Words), .sl 1 (List.map byteV r.1.Options), .sl 1 (List.map byteV r.1.Unknown)], .bool r.2])) h) (hX : ∀ v, X v → V.Cl 0 v ∧ Q (.panic v) h) : CA qprim 10 [.nilp, .str x1] h Q := by
  refine acalln hp Try.func10 rfl (by kernel_rfl) (n := 18) rfl (rs := [.cell 4 30, .tmp 5]) rfl [0, 1, 4, 5, 6, 11] [] true (by simp) ?_
  unfold pool_Pool_Message at hq
  simp only [initEnv, List.map_cons, List.map_nil, List.getD_cons_zero, List.getD_cons_succ, List.getD_nil, V.demote]
  rw [wp_seq]
  refine wp_region_i (by rfl) ?_
  simp only [go_sem, ↓evs_eq, Nat.reduceAdd, ↓reduceIte, Nat.reduceEqDiff, Nat.reduceBEq, Nat.reduceBNe, Nat.reduceLT, Int.reduceToNat, Int.reduceEq, Int.reduceLT, Int.reduceLE, reduceCtorEq, Nat.reduceMul, Nat.reduceLeDiff]
  rw [wp_seq]
  rw [wp_seq]
  refine wp_region_i (by rfl) ?_
  simp only [go_sem, ↓evs_eq, Nat.reduceAdd, ↓reduceIte, Nat.reduceEqDiff, Nat.reduceBEq, Nat.reduceBNe, Nat.reduceLT, Int.reduceToNat, Int.reduceEq, Int.reduceLT, Int.reduceLE, reduceCtorEq, Nat.reduceMul, Nat.reduceLeDiff]
  obtain ⟨K11, hK12, hq⟩ := R.post_cut hq
  refine pool_Pool_of_call (x1 := x1) (x2 := 2) hq (fun r10 hq => ?_) (fun v hv => ⟨(hX v hv).1, ?_⟩)
  · replace hq := hK12 _ hq
    simp only [go_sem, ↓evs_eq, Nat.reduceAdd, ↓reduceIte, Nat.reduceEqDiff, Nat.reduceBEq, Nat.reduceBNe, Nat.reduceLT, Int.reduceToNat, Int.reduceEq, Int.reduceLT, Int.reduceLE, reduceCtorEq, Nat.reduceMul, Nat.reduceLeDiff]
    rw [wp_seq]
    refine wp_region_i (by rfl) ?_
    simp only [go_sem, ↓evs_eq, Nat.reduceAdd, ↓reduceIte, Nat.reduceEqDiff, Nat.reduceBEq, Nat.reduceBNe, Nat.reduceLT, Int.reduceToNat, Int.reduceEq, Int.reduceLT, Int.reduceLE, reduceCtorEq, Nat.reduceMul, Nat.reduceLeDiff]
    rw [wp_cond]
    simp only [go_sem, ↓evs_eq, Nat.reduceAdd, ↓reduceIte, Nat.reduceEqDiff, Nat.reduceBEq, Nat.reduceBNe, Nat.reduceLT, Int.reduceToNat, Int.reduceEq, Int.reduceLT, Int.reduceLE, reduceCtorEq, Nat.reduceMul, Nat.reduceLeDiff]
    rw [condK_ff]
    try simp only [wp_skip, RC]
    refine Wk.same ?_
    try simp only [RC]
    rw [wp_seq]
    refine wp_region_i (by rfl) ?_
    simp only [go_sem, ↓evs_eq, Nat.reduceAdd, ↓reduceIte, Nat.reduceEqDiff, Nat.reduceBEq, Nat.reduceBNe, Nat.reduceLT, Int.reduceToNat, Int.reduceEq, Int.reduceLT, Int.reduceLE, reduceCtorEq, Nat.reduceMul, Nat.reduceLeDiff]
    rw [wp_ret]
    simp only [retQ, results, resultAll, resultOne, Nat.zero_add, scopeQ, go_sem, ↓evs_eq, Nat.reduceAdd, ↓reduceIte, Nat.reduceEqDiff, Nat.reduceBEq, Nat.reduceBNe, Nat.reduceLT, Int.reduceToNat, Int.reduceEq, Int.reduceLT, Int.reduceLE, reduceCtorEq, Nat.reduceMul, Nat.reduceLeDiff]
    refine ⟨_, (.tup _ _ (LLe.cons (.agg _ _ (LLe.cons (.refl _) (LLe.cons (.nsl _ _) (LLe.cons (.nsl _ _) (LLe.cons (.nsl _ _) (LLe.cons (.nsl _ _) (LLe.cons (.nsl _ _) (LLe.cons (.nsl _ _) (LLe.cons (.nsl _ _) (LLe.cons (.nsl _ _) (LLe.cons (.nsl _ _) (LLe.cons (.nsl _ _) LLe.nil))))))))))).1 (LLe.cons (.refl _) (LLe.cons (.nsl _ _) (LLe.cons (.nsl _ _) (LLe.cons (.nsl _ _) (LLe.cons (.nsl _ _) (LLe.cons (.nsl _ _) (LLe.cons (.nsl _ _) (LLe.cons (.nsl _ _) (LLe.cons (.nsl _ _) (LLe.cons (.nsl _ _) (LLe.cons (.nsl _ _) LLe.nil))))))))))).2) (LLe.cons (.refl _) LLe.nil)).1 (LLe.cons (.agg _ _ (LLe.cons (.refl _) (LLe.cons (.nsl _ _) (LLe.cons (.nsl _ _) (LLe.cons (.nsl _ _) (LLe.cons (.nsl _ _) (LLe.cons (.nsl _ _) (LLe.cons (.nsl _ _) (LLe.cons (.nsl _ _) (LLe.cons (.nsl _ _) (LLe.cons (.nsl _ _) (LLe.cons (.nsl _ _) LLe.nil))))))))))).1 (LLe.cons (.refl _) (LLe.cons (.nsl _ _) (LLe.cons (.nsl _ _) (LLe.cons (.nsl _ _) (LLe.cons (.nsl _ _) (LLe.cons (.nsl _ _) (LLe.cons (.nsl _ _) (LLe.cons (.nsl _ _) (LLe.cons (.nsl _ _) (LLe.cons (.nsl _ _) (LLe.cons (.nsl _ _) LLe.nil))))))))))).2) (LLe.cons (.refl _) LLe.nil)).2), ?_⟩
    refine leave_ok rfl (.tup _ (cl_cons (.agg _ (cl_cons (.str _) (cl_cons (.sl _ _ cl_nil) (cl_cons (.sl _ _ cl_nil) (cl_cons (.sl _ _ cl_nil) (cl_cons (.sl _ _ cl_nil) (cl_cons (.sl _ _ cl_nil) (cl_cons (.sl _ _ cl_nil) (cl_cons (.sl _ _ cl_nil) (cl_cons (.sl _ _ cl_nil) (cl_cons (.sl _ _ cl_nil) (cl_cons (.sl _ _ cl_nil) cl_nil)))))))))))) (cl_cons (.bool _) cl_nil))) ?_
    exact hK _ hq
  · simp only [RC, scopeQ, retQ, ↓reduceIte, Bool.false_eq_true]
    exact leaveP_ok ((hX _ hv).1.mono (Nat.zero_le _)) (hX _ hv).2

def pool_Pool_Enum (x1 : List UInt8) : R (S_api_Enum × Bool) :=
  (pool_Pool_of x1 3).bind fun r10 => R.ok ((S_api_Enum.mk [] [] [] []), false)
theorem pool_Pool_Enum_call {h : H} {x1 : List UInt8} {Q : Out → H → Prop} {KK : (S_api_Enum × Bool) → Prop} {X : V → Prop} (hq : (pool_Pool_Enum x1).post KK X) (hK : ∀ r, KK r → Q (.ret (.tup [.agg [.str r.1.Name, .sl 4 (List.map S_api_Value.enc r.1.Values), .sl 1 (List.map byteV r.1.Options), .sl 1 (List.map byteV r.1.Unknown)], .bool r.2])) h) (hX : ∀ v, X v → V.Cl 0 v ∧ Q (.panic v) h) : CA qprim 11 [.nilp, .str x1] h Q := by
  refine acalln hp Try.func11 rfl (by kernel_rfl) (n := 18) rfl (rs := [.cell 4 44, .tmp 5]) rfl [0, 1, 4, 5, 6, 11] [] true (by simp) ?_
  unfold pool_Pool_Enum at hq
  simp only [initEnv, List.map_cons, List.map_nil, List.getD_cons_zero, List.getD_cons_succ, List.getD_nil, V.demote]
  rw [wp_seq]
  refine wp_region_i (by rfl) ?_
  simp only [go_sem, ↓evs_eq, Nat.reduceAdd, ↓reduceIte, Nat.reduceEqDiff, Nat.reduceBEq, Nat.reduceBNe, Nat.reduceLT, Int.reduceToNat, Int.reduceEq, Int.reduceLT, Int.reduceLE, reduceCtorEq, Nat.reduceMul, Nat.reduceLeDiff]
  rw [wp_seq]
  rw [wp_seq]
  refine wp_region_i (by rfl) ?_
  simp only [go_sem, ↓evs_eq, Nat.reduceAdd, ↓reduceIte, Nat.reduceEqDiff, Nat.reduceBEq, Nat.reduceBNe, Nat.reduceLT, Int.reduceToNat, Int.reduceEq, Int.reduceLT, Int.reduceLE, reduceCtorEq, Nat.reduceMul, Nat.reduceLeDiff]
  obtain ⟨K11, hK12, hq⟩ := R.post_cut hq
  refine pool_Pool_of_call (x1 := x1) (x2 := 3) hq (fun r10 hq => ?_) (fun v hv => ⟨(hX v hv).1, ?_⟩)
  · replace hq := hK12 _ hq
    simp only [go_sem, ↓evs_eq, Nat.reduceAdd, ↓reduceIte, Nat.reduceEqDiff, Nat.reduceBEq, Nat.reduceBNe, Nat.reduceLT, Int.reduceToNat, Int.reduceEq, Int.reduceLT, Int.reduceLE, reduceCtorEq, Nat.reduceMul, Nat.reduceLeDiff]
    rw [wp_seq]
    refine wp_region_i (by rfl) ?_
    simp only [go_sem, ↓evs_eq, Nat.reduceAdd, ↓reduceIte, Nat.reduceEqDiff, Nat.reduceBEq, Nat.reduceBNe, Nat.reduceLT, Int.reduceToNat, Int.reduceEq, Int.reduceLT, Int.reduceLE, reduceCtorEq, Nat.reduceMul, Nat.reduceLeDiff]
    rw [wp_cond]
    simp only [go_sem, ↓evs_eq, Nat.reduceAdd, ↓reduceIte, Nat.reduceEqDiff, Nat.reduceBEq, Nat.reduceBNe, Nat.reduceLT, Int.reduceToNat, Int.reduceEq, Int.reduceLT, Int.reduceLE, reduceCtorEq, Nat.reduceMul, Nat.reduceLeDiff]
    rw [condK_ff]
    try simp only [wp_skip, RC]
    refine Wk.same ?_
    try simp only [RC]
    rw [wp_seq]
    refine wp_region_i (by rfl) ?_
    simp only [go_sem, ↓evs_eq, Nat.reduceAdd, ↓reduceIte, Nat.reduceEqDiff, Nat.reduceBEq, Nat.reduceBNe, Nat.reduceLT, Int.reduceToNat, Int.reduceEq, Int.reduceLT, Int.reduceLE, reduceCtorEq, Nat.reduceMul, Nat.reduceLeDiff]
    rw [wp_ret]
    simp only [retQ, results, resultAll, resultOne, Nat.zero_add, scopeQ, go_sem, ↓evs_eq, Nat.reduceAdd, ↓reduceIte, Nat.reduceEqDiff, Nat.reduceBEq, Nat.reduceBNe, Nat.reduceLT, Int.reduceToNat, Int.reduceEq, Int.reduceLT, Int.reduceLE, reduceCtorEq, Nat.reduceMul, Nat.reduceLeDiff]
    refine ⟨_, (.tup _ _ (LLe.cons (.agg _ _ (LLe.cons (.refl _) (LLe.cons (.nsl _ _) (LLe.cons (.nsl _ _) (LLe.cons (.nsl _ _) LLe.nil)))).1 (LLe.cons (.refl _) (LLe.cons (.nsl _ _) (LLe.cons (.nsl _ _) (LLe.cons (.nsl _ _) LLe.nil)))).2) (LLe.cons (.refl _) LLe.nil)).1 (LLe.cons (.agg _ _ (LLe.cons (.refl _) (LLe.cons (.nsl _ _) (LLe.cons (.nsl _ _) (LLe.cons (.nsl _ _) LLe.nil)))).1 (LLe.cons (.refl _) (LLe.cons (.nsl _ _) (LLe.cons (.nsl _ _) (LLe.cons (.nsl _ _) LLe.nil)))).2) (LLe.cons (.refl _) LLe.nil)).2), ?_⟩
    refine leave_ok rfl (.tup _ (cl_cons (.agg _ (cl_cons (.str _) (cl_cons (.sl _ _ cl_nil) (cl_cons (.sl _ _ cl_nil) (cl_cons (.sl _ _ cl_nil) cl_nil))))) (cl_cons (.bool _) cl_nil))) ?_
    exact hK _ hq
  · simp only [RC, scopeQ, retQ, ↓reduceIte, Bool.false_eq_true]
    exact leaveP_ok ((hX _ hv).1.mono (Nat.zero_le _)) (hX _ hv).2

def pool_Pool_Ext (x1 : List UInt8) : R (S_api_Field × Bool) :=
  (pool_Pool_of x1 6).bind fun r10 => R.ok ((S_api_Field.mk [] 0 0 0 [] [] [] false 0 [] false [] []), false)
theorem pool_Pool_Ext_call {h : H} {x1 : List UInt8} {Q : Out → H → Prop} {KK : (S_api_Field × Bool) → Prop} {X : V → Prop} (hq : (pool_Pool_Ext x1).post KK X) (hK : ∀ r, KK r → Q (.ret (.tup [.agg [.str r.1.Name, .int .i64 r.1.Number, .int .i64 r.1.Label, .int .i64 r.1.Type_, .str r.1.TypeName, .str r.1.Extendee, .str r.1.Default, .bool r.1.Has, .int .i64 r.1.Oneof, .str r.1.Json, .bool r.1.Optional, .sl 1 (List.map byteV r.1.Options), .sl 1 (List.map byteV r.1.Unknown)], .bool r.2])) h) (hX : ∀ v, X v → V.Cl 0 v ∧ Q (.panic v) h) : CA qprim 12 [.nilp, .str x1] h Q := by
  refine acalln hp Try.func12 rfl (by kernel_rfl) (n := 18) rfl (rs := [.cell 4 48, .tmp 5]) rfl [0, 1, 4, 5, 6, 11] [] true (by simp) ?_
  unfold pool_Pool_Ext at hq
  simp only [initEnv, List.map_cons, List.map_nil, List.getD_cons_zero, List.getD_cons_succ, List.getD_nil, V.demote]
  rw [wp_seq]
  refine wp_region_i (by rfl) ?_
  simp only [go_sem, ↓evs_eq, Nat.reduceAdd, ↓reduceIte, Nat.reduceEqDiff, Nat.reduceBEq, Nat.reduceBNe, Nat.reduceLT, Int.reduceToNat, Int.reduceEq, Int.reduceLT, Int.reduceLE, reduceCtorEq, Nat.reduceMul, Nat.reduceLeDiff]
  rw [wp_seq]
  rw [wp_seq]
  refine wp_region_i (by rfl) ?_
  simp only [go_sem, ↓evs_eq, Nat.reduceAdd, ↓reduceIte, Nat.reduceEqDiff, Nat.reduceBEq, Nat.reduceBNe, Nat.reduceLT, Int.reduceToNat, Int.reduceEq, Int.reduceLT, Int.reduceLE, reduceCtorEq, Nat.reduceMul, Nat.reduceLeDiff]
  obtain ⟨K11, hK12, hq⟩ := R.post_cut hq
  refine pool_Pool_of_call (x1 := x1) (x2 := 6) hq (fun r10 hq => ?_) (fun v hv => ⟨(hX v hv).1, ?_⟩)
  · replace hq := hK12 _ hq
    simp only [go_sem, ↓evs_eq, Nat.reduceAdd, ↓reduceIte, Nat.reduceEqDiff, Nat.reduceBEq, Nat.reduceBNe, Nat.reduceLT, Int.reduceToNat, Int.reduceEq, Int.reduceLT, Int.reduceLE, reduceCtorEq, Nat.reduceMul, Nat.reduceLeDiff]
    rw [wp_seq]
    refine wp_region_i (by rfl) ?_
    simp only [go_sem, ↓evs_eq, Nat.reduceAdd, ↓reduceIte, Nat.reduceEqDiff, Nat.reduceBEq, Nat.reduceBNe, Nat.reduceLT, Int.reduceToNat, Int.reduceEq, Int.reduceLT, Int.reduceLE, reduceCtorEq, Nat.reduceMul, Nat.reduceLeDiff]
    rw [wp_cond]
    simp only [go_sem, ↓evs_eq, Nat.reduceAdd, ↓reduceIte, Nat.reduceEqDiff, Nat.reduceBEq, Nat.reduceBNe, Nat.reduceLT, Int.reduceToNat, Int.reduceEq, Int.reduceLT, Int.reduceLE, reduceCtorEq, Nat.reduceMul, Nat.reduceLeDiff]
    rw [condK_ff]
    try simp only [wp_skip, RC]
    refine Wk.same ?_
    try simp only [RC]
    rw [wp_seq]
    refine wp_region_i (by rfl) ?_
    simp only [go_sem, ↓evs_eq, Nat.reduceAdd, ↓reduceIte, Nat.reduceEqDiff, Nat.reduceBEq, Nat.reduceBNe, Nat.reduceLT, Int.reduceToNat, Int.reduceEq, Int.reduceLT, Int.reduceLE, reduceCtorEq, Nat.reduceMul, Nat.reduceLeDiff]
    rw [wp_ret]
    simp only [retQ, results, resultAll, resultOne, Nat.zero_add, scopeQ, go_sem, ↓evs_eq, Nat.reduceAdd, ↓reduceIte, Nat.reduceEqDiff, Nat.reduceBEq, Nat.reduceBNe, Nat.reduceLT, Int.reduceToNat, Int.reduceEq, Int.reduceLT, Int.reduceLE, reduceCtorEq, Nat.reduceMul, Nat.reduceLeDiff]
    refine ⟨_, (.tup _ _ (LLe.cons (.agg _ _ (LLe.cons (.refl _) (LLe.cons (.refl _) (LLe.cons (.refl _) (LLe.cons (.refl _) (LLe.cons (.refl _) (LLe.cons (.refl _) (LLe.cons (.refl _) (LLe.cons (.refl _) (LLe.cons (.refl _) (LLe.cons (.refl _) (LLe.cons (.refl _) (LLe.cons (.nsl _ _) (LLe.cons (.nsl _ _) LLe.nil))))))))))))).1 (LLe.cons (.refl _) (LLe.cons (.refl _) (LLe.cons (.refl _) (LLe.cons (.refl _) (LLe.cons (.refl _) (LLe.cons (.refl _) (LLe.cons (.refl _) (LLe.cons (.refl _) (LLe.cons (.refl _) (LLe.cons (.refl _) (LLe.cons (.refl _) (LLe.cons (.nsl _ _) (LLe.cons (.nsl _ _) LLe.nil))))))))))))).2) (LLe.cons (.refl _) LLe.nil)).1 (LLe.cons (.agg _ _ (LLe.cons (.refl _) (LLe.cons (.refl _) (LLe.cons (.refl _) (LLe.cons (.refl _) (LLe.cons (.refl _) (LLe.cons (.refl _) (LLe.cons (.refl _) (LLe.cons (.refl _) (LLe.cons (.refl _) (LLe.cons (.refl _) (LLe.cons (.refl _) (LLe.cons (.nsl _ _) (LLe.cons (.nsl _ _) LLe.nil))))))))))))).1 (LLe.cons (.refl _) (LLe.cons (.refl _) (LLe.cons (.refl _) (LLe.cons (.refl _) (LLe.cons (.refl _) (LLe.cons (.refl _) (LLe.cons (.refl _) (LLe.cons (.refl _) (LLe.cons (.refl _) (LLe.cons (.refl _) (LLe.cons (.refl _) (LLe.cons (.nsl _ _) (LLe.cons (.nsl _ _) LLe.nil))))))))))))).2) (LLe.cons (.refl _) LLe.nil)).2), ?_⟩
    refine leave_ok rfl (.tup _ (cl_cons (.agg _ (cl_cons (.str _) (cl_cons (.int _ _) (cl_cons (.int _ _) (cl_cons (.int _ _) (cl_cons (.str _) (cl_cons (.str _) (cl_cons (.str _) (cl_cons (.bool _) (cl_cons (.int _ _) (cl_cons (.str _) (cl_cons (.bool _) (cl_cons (.sl _ _ cl_nil) (cl_cons (.sl _ _ cl_nil) cl_nil)))))))))))))) (cl_cons (.bool _) cl_nil))) ?_
    exact hK _ hq
  · simp only [RC, scopeQ, retQ, ↓reduceIte, Bool.false_eq_true]
    exact leaveP_ok ((hX _ hv).1.mono (Nat.zero_le _)) (hX _ hv).2

def pool_Pool_File (x1 : List UInt8) : R (S_api_File × Bool) :=
  R.ok ((S_api_File.mk [] [] [] [] [] [] [] [] [] [] []), false)
theorem pool_Pool_File_call {h : H} {x1 : List UInt8} {Q : Out → H → Prop} {KK : (S_api_File × Bool) → Prop} {X : V → Prop} (hq : (pool_Pool_File x1).post KK X) (hK : ∀ r, KK r → Q (.ret (.tup [.agg [.str r.1.Name, .str r.1.Package, .sl 1 (List.map V.str r.1.Deps), .sl 1 (List.map (V.int .i64) r.1.Public), .sl 11 (List.map S_api_Message.enc r.1.Messages), .sl 4 (List.map S_api_Enum.enc r.1.Enums), .sl 4 (List.map S_api_Service.enc r.1.Services), .sl 13 (List.map S_api_Field.enc r.1.Extends), .str r.1.Syntax, .sl 1 (List.map byteV r.1.Options), .sl 1 (List.map byteV r.1.Unknown)], .bool r.2])) h) (hX : ∀ v, X v → V.Cl 0 v ∧ Q (.panic v) h) : CA qprim 13 [.nilp, .str x1] h Q := by
  refine acalln hp Try.func13 rfl (by kernel_rfl) (n := 28) rfl (rs := [.cell 4 36, .tmp 5]) rfl [0, 1, 4, 5, 7, 9, 14, 15, 16, 17, 23] [] true (by simp) ?_
  unfold pool_Pool_File at hq
  simp only [initEnv, List.map_cons, List.map_nil, List.getD_cons_zero, List.getD_cons_succ, List.getD_nil, V.demote]
  rw [wp_seq]
  refine wp_region_i (by rfl) ?_
  simp only [go_sem, ↓evs_eq, Nat.reduceAdd, ↓reduceIte, Nat.reduceEqDiff, Nat.reduceBEq, Nat.reduceBNe, Nat.reduceLT, Int.reduceToNat, Int.reduceEq, Int.reduceLT, Int.reduceLE, reduceCtorEq, Nat.reduceMul, Nat.reduceLeDiff]
  rw [wp_seq]
  rw [wp_seq]
  refine wp_region_i (by rfl) ?_
  simp only [go_sem, ↓evs_eq, Nat.reduceAdd, ↓reduceIte, Nat.reduceEqDiff, Nat.reduceBEq, Nat.reduceBNe, Nat.reduceLT, Int.reduceToNat, Int.reduceEq, Int.reduceLT, Int.reduceLE, reduceCtorEq, Nat.reduceMul, Nat.reduceLeDiff]
  rw [wp_cond]
  simp only [go_sem, ↓evs_eq, Nat.reduceAdd, ↓reduceIte, Nat.reduceEqDiff, Nat.reduceBEq, Nat.reduceBNe, Nat.reduceLT, Int.reduceToNat, Int.reduceEq, Int.reduceLT, Int.reduceLE, reduceCtorEq, Nat.reduceMul, Nat.reduceLeDiff]
  rw [condK_tt]
  rw [wp_seq]
  refine wp_region_i (by rfl) ?_
  simp only [go_sem, ↓evs_eq, Nat.reduceAdd, ↓reduceIte, Nat.reduceEqDiff, Nat.reduceBEq, Nat.reduceBNe, Nat.reduceLT, Int.reduceToNat, Int.reduceEq, Int.reduceLT, Int.reduceLE, reduceCtorEq, Nat.reduceMul, Nat.reduceLeDiff]
  rw [wp_ret]
  simp only [retQ, results, resultAll, resultOne, Nat.zero_add, scopeQ, go_sem, ↓evs_eq, Nat.reduceAdd, ↓reduceIte, Nat.reduceEqDiff, Nat.reduceBEq, Nat.reduceBNe, Nat.reduceLT, Int.reduceToNat, Int.reduceEq, Int.reduceLT, Int.reduceLE, reduceCtorEq, Nat.reduceMul, Nat.reduceLeDiff]
  refine ⟨_, (.tup _ _ (LLe.cons (.agg _ _ (LLe.cons (.refl _) (LLe.cons (.refl _) (LLe.cons (.nsl _ _) (LLe.cons (.nsl _ _) (LLe.cons (.nsl _ _) (LLe.cons (.nsl _ _) (LLe.cons (.nsl _ _) (LLe.cons (.nsl _ _) (LLe.cons (.refl _) (LLe.cons (.nsl _ _) (LLe.cons (.nsl _ _) LLe.nil))))))))))).1 (LLe.cons (.refl _) (LLe.cons (.refl _) (LLe.cons (.nsl _ _) (LLe.cons (.nsl _ _) (LLe.cons (.nsl _ _) (LLe.cons (.nsl _ _) (LLe.cons (.nsl _ _) (LLe.cons (.nsl _ _) (LLe.cons (.refl _) (LLe.cons (.nsl _ _) (LLe.cons (.nsl _ _) LLe.nil))))))))))).2) (LLe.cons (.refl _) LLe.nil)).1 (LLe.cons (.agg _ _ (LLe.cons (.refl _) (LLe.cons (.refl _) (LLe.cons (.nsl _ _) (LLe.cons (.nsl _ _) (LLe.cons (.nsl _ _) (LLe.cons (.nsl _ _) (LLe.cons (.nsl _ _) (LLe.cons (.nsl _ _) (LLe.cons (.refl _) (LLe.cons (.nsl _ _) (LLe.cons (.nsl _ _) LLe.nil))))))))))).1 (LLe.cons (.refl _) (LLe.cons (.refl _) (LLe.cons (.nsl _ _) (LLe.cons (.nsl _ _) (LLe.cons (.nsl _ _) (LLe.cons (.nsl _ _) (LLe.cons (.nsl _ _) (LLe.cons (.nsl _ _) (LLe.cons (.refl _) (LLe.cons (.nsl _ _) (LLe.cons (.nsl _ _) LLe.nil))))))))))).2) (LLe.cons (.refl _) LLe.nil)).2), ?_⟩
  refine leave_ok rfl (.tup _ (cl_cons (.agg _ (cl_cons (.str _) (cl_cons (.str _) (cl_cons (.sl _ _ cl_nil) (cl_cons (.sl _ _ cl_nil) (cl_cons (.sl _ _ cl_nil) (cl_cons (.sl _ _ cl_nil) (cl_cons (.sl _ _ cl_nil) (cl_cons (.sl _ _ cl_nil) (cl_cons (.str _) (cl_cons (.sl _ _ cl_nil) (cl_cons (.sl _ _ cl_nil) cl_nil)))))))))))) (cl_cons (.bool _) cl_nil))) ?_
  exact hK _ hq

def stringslite_HasPrefix (x0 : List UInt8) (x1 : List UInt8) : R (Bool) :=
  (if (List.length x1 : Int) ≤ (List.length x0 : Int) then (if 0 ≤ (List.length x1 : Int) ∧ (List.length x1 : Int) ≤ (List.length x0 : Int) then (R.ok (decide ((List.take (Int.toNat (List.length x1 : Int)) x0) = x1))) else R.stuck) else (R.ok false)).bind fun x4m3 => R.ok x4m3
theorem stringslite_HasPrefix_call {h : H} {x0 : List UInt8} {x1 : List UInt8} {Q : Out → H → Prop} {KK : (Bool) → Prop} {X : V → Prop} (hq : (stringslite_HasPrefix x0 x1).post KK X) (hK : ∀ r, KK r → Q (.ret (.bool r)) h) (hX : ∀ v, X v → V.Cl 0 v ∧ Q (.panic v) h) : CA qprim 109 [.str x0, .str x1] h Q := by
  refine acalln hp Try.func109 rfl (by kernel_rfl) (n := 18) rfl (rs := [.tmp 4]) rfl [0, 1, 4] [] false (by simp) ?_
  unfold stringslite_HasPrefix at hq
  simp only [initEnv, List.map_cons, List.map_nil, List.getD_cons_zero, List.getD_cons_succ, List.getD_nil, V.demote]
  rw [wp_seq]
  refine wp_region_i (by rfl) ?_
  simp only [go_sem, ↓evs_eq, Nat.reduceAdd, ↓reduceIte, Nat.reduceEqDiff, Nat.reduceBEq, Nat.reduceBNe, Nat.reduceLT, Int.reduceToNat, Int.reduceEq, Int.reduceLT, Int.reduceLE, reduceCtorEq, Nat.reduceMul, Nat.reduceLeDiff]
  obtain ⟨K4, hK5, hq⟩ := R.post_cut hq
  refine seq_gen (acall_mono hp) (σ := Bool) (fun s => [(0, .str x0), (1, .str x1), (4, .bool s)]) (fun s => h) (fun s => K4 s) (fun x4m3 hq => ?_) (fun N hN6 => ?_)
  · replace hq := hK5 _ hq
    try dsimp only at hq ⊢
    rw [wp_ret]
    simp only [retQ, results, resultAll, resultOne, Nat.zero_add, scopeQ, go_sem, ↓evs_eq, Nat.reduceAdd, ↓reduceIte, Nat.reduceEqDiff, Nat.reduceBEq, Nat.reduceBNe, Nat.reduceLT, Int.reduceToNat, Int.reduceEq, Int.reduceLT, Int.reduceLE, reduceCtorEq, Nat.reduceMul, Nat.reduceLeDiff]
    refine ⟨_, (.refl _), ?_⟩
    exact hK _ hq
  · refine wp_region_i (by rfl) ?_
    simp only [go_sem, ↓evs_eq, Nat.reduceAdd, ↓reduceIte, Nat.reduceEqDiff, Nat.reduceBEq, Nat.reduceBNe, Nat.reduceLT, Int.reduceToNat, Int.reduceEq, Int.reduceLT, Int.reduceLE, reduceCtorEq, Nat.reduceMul, Nat.reduceLeDiff]
    by_cases hc7 : (List.length x1 : Int) ≤ (List.length x0 : Int)
    · replace hq := (R.post_if hq).1 hc7
      obtain ⟨g8, hq⟩ := R.guard hq
      simp only [decide_eq_true hc7, go_sem, ↓evs_eq, Nat.reduceAdd, ↓reduceIte, Nat.reduceEqDiff, Nat.reduceBEq, Nat.reduceBNe, Nat.reduceLT, Int.reduceToNat, Int.reduceEq, Int.reduceLT, Int.reduceLE, reduceCtorEq, Nat.reduceMul, Nat.reduceLeDiff]
      repeat (with_reducible refine And.intro (by first | omega | assumption) ?_)
      exact hN6 (decide ((List.take (Int.toNat (List.length x1 : Int)) x0) = x1)) hq
    · replace hq := (R.post_if hq).2 hc7
      simp only [decide_eq_false hc7, go_sem, ↓evs_eq, Nat.reduceAdd, ↓reduceIte, Nat.reduceEqDiff, Nat.reduceBEq, Nat.reduceBNe, Nat.reduceLT, Int.reduceToNat, Int.reduceEq, Int.reduceLT, Int.reduceLE, reduceCtorEq, Nat.reduceMul, Nat.reduceLeDiff]
      exact hN6 false hq

def stringslite_CutPrefix (x0 : List UInt8) (x1 : List UInt8) : R ((List UInt8) × Bool) :=
  (stringslite_HasPrefix x0 x1).bind fun r11 => if r11 = true then (if 0 ≤ (List.length x1 : Int) ∧ (List.length x1 : Int) ≤ (List.length x0 : Int) then (R.ok ((List.drop (Int.toNat (List.length x1 : Int)) x0), true)) else R.stuck) else (R.ok (x0, false))
theorem stringslite_CutPrefix_call {h : H} {x0 : List UInt8} {x1 : List UInt8} {Q : Out → H → Prop} {KK : ((List UInt8) × Bool) → Prop} {X : V → Prop} (hq : (stringslite_CutPrefix x0 x1).post KK X) (hK : ∀ r, KK r → Q (.ret (.tup [.str r.1, .bool r.2])) h) (hX : ∀ v, X v → V.Cl 0 v ∧ Q (.panic v) h) : CA qprim 84 [.str x0, .str x1] h Q := by
  refine acalln hp Try.func84 rfl (by kernel_rfl) (n := 15) rfl (rs := [.tmp 4, .tmp 5]) rfl [0, 1, 4, 5, 9] [] false (by simp) ?_
  unfold stringslite_CutPrefix at hq
  simp only [initEnv, List.map_cons, List.map_nil, List.getD_cons_zero, List.getD_cons_succ, List.getD_nil, V.demote]
  rw [wp_seq]
  refine wp_region_i (by rfl) ?_
  simp only [go_sem, ↓evs_eq, Nat.reduceAdd, ↓reduceIte, Nat.reduceEqDiff, Nat.reduceBEq, Nat.reduceBNe, Nat.reduceLT, Int.reduceToNat, Int.reduceEq, Int.reduceLT, Int.reduceLE, reduceCtorEq, Nat.reduceMul, Nat.reduceLeDiff]
  rw [wp_seq]
  rw [wp_seq]
  refine wp_region_i (by rfl) ?_
  simp only [go_sem, ↓evs_eq, Nat.reduceAdd, ↓reduceIte, Nat.reduceEqDiff, Nat.reduceBEq, Nat.reduceBNe, Nat.reduceLT, Int.reduceToNat, Int.reduceEq, Int.reduceLT, Int.reduceLE, reduceCtorEq, Nat.reduceMul, Nat.reduceLeDiff]
  obtain ⟨K15, hK16, hq⟩ := R.post_cut hq
  refine stringslite_HasPrefix_call (x0 := x0) (x1 := x1) hq (fun r11 hq => ?_) (fun v hv => ⟨(hX v hv).1, ?_⟩)
  · replace hq := hK16 _ hq
    simp only [go_sem, ↓evs_eq, Nat.reduceAdd, ↓reduceIte, Nat.reduceEqDiff, Nat.reduceBEq, Nat.reduceBNe, Nat.reduceLT, Int.reduceToNat, Int.reduceEq, Int.reduceLT, Int.reduceLE, reduceCtorEq, Nat.reduceMul, Nat.reduceLeDiff]
    rw [wp_cond]
    simp only [go_sem, ↓evs_eq, Nat.reduceAdd, ↓reduceIte, Nat.reduceEqDiff, Nat.reduceBEq, Nat.reduceBNe, Nat.reduceLT, Int.reduceToNat, Int.reduceEq, Int.reduceLT, Int.reduceLE, reduceCtorEq, Nat.reduceMul, Nat.reduceLeDiff]
    by_cases hc12 : r11 = true
    · replace hq := (R.post_if hq).1 hc12
      refine condK_f (congrArg (fun b => V.bool (!b)) (hc12)) ?_
      try simp only [wp_skip, RC]
      refine Wk.same ?_
      try simp only [RC]
      rw [wp_seq]
      refine wp_region_i (by rfl) ?_
      obtain ⟨g14, hq⟩ := R.guard hq
      simp only [go_sem, ↓evs_eq, Nat.reduceAdd, ↓reduceIte, Nat.reduceEqDiff, Nat.reduceBEq, Nat.reduceBNe, Nat.reduceLT, Int.reduceToNat, Int.reduceEq, Int.reduceLT, Int.reduceLE, reduceCtorEq, Nat.reduceMul, Nat.reduceLeDiff]
      repeat (with_reducible refine And.intro (by first | omega | assumption) ?_)
      rw [wp_ret]
      simp only [retQ, results, resultAll, resultOne, Nat.zero_add, scopeQ, go_sem, ↓evs_eq, Nat.reduceAdd, ↓reduceIte, Nat.reduceEqDiff, Nat.reduceBEq, Nat.reduceBNe, Nat.reduceLT, Int.reduceToNat, Int.reduceEq, Int.reduceLT, Int.reduceLE, reduceCtorEq, Nat.reduceMul, Nat.reduceLeDiff]
      refine ⟨_, (.refl _), ?_⟩
      exact hK _ hq
    · replace hq := (R.post_if hq).2 hc12
      replace hc12 := eq_false_of_ne_true hc12
      refine condK_t (congrArg (fun b => V.bool (!b)) (hc12)) ?_
      rw [wp_seq]
      refine wp_region_i (by rfl) ?_
      simp only [go_sem, ↓evs_eq, Nat.reduceAdd, ↓reduceIte, Nat.reduceEqDiff, Nat.reduceBEq, Nat.reduceBNe, Nat.reduceLT, Int.reduceToNat, Int.reduceEq, Int.reduceLT, Int.reduceLE, reduceCtorEq, Nat.reduceMul, Nat.reduceLeDiff]
      rw [wp_ret]
      simp only [retQ, results, resultAll, resultOne, Nat.zero_add, scopeQ, go_sem, ↓evs_eq, Nat.reduceAdd, ↓reduceIte, Nat.reduceEqDiff, Nat.reduceBEq, Nat.reduceBNe, Nat.reduceLT, Int.reduceToNat, Int.reduceEq, Int.reduceLT, Int.reduceLE, reduceCtorEq, Nat.reduceMul, Nat.reduceLeDiff]
      refine ⟨_, (.refl _), ?_⟩
      exact hK _ hq
  · simp only [RC, scopeQ, retQ, ↓reduceIte, Bool.false_eq_true]
    exact (hX _ hv).2

def strings_CutPrefix (x0 : List UInt8) (x1 : List UInt8) : R ((List UInt8) × Bool) :=
  (stringslite_CutPrefix x0 x1).bind fun r4 => R.ok (r4.1, r4.2)
theorem strings_CutPrefix_call {h : H} {x0 : List UInt8} {x1 : List UInt8} {Q : Out → H → Prop} {KK : ((List UInt8) × Bool) → Prop} {X : V → Prop} (hq : (strings_CutPrefix x0 x1).post KK X) (hK : ∀ r, KK r → Q (.ret (.tup [.str r.1, .bool r.2])) h) (hX : ∀ v, X v → V.Cl 0 v ∧ Q (.panic v) h) : CA qprim 60 [.str x0, .str x1] h Q := by
  refine acalln hp Try.func60 rfl (by kernel_rfl) (n := 11) rfl (rs := [.tmp 4, .tmp 5]) rfl [0, 1, 4, 5] [] false (by simp) ?_
  unfold strings_CutPrefix at hq
  simp only [initEnv, List.map_cons, List.map_nil, List.getD_cons_zero, List.getD_cons_succ, List.getD_nil, V.demote]
  rw [wp_seq]
  refine wp_region_i (by rfl) ?_
  simp only [go_sem, ↓evs_eq, Nat.reduceAdd, ↓reduceIte, Nat.reduceEqDiff, Nat.reduceBEq, Nat.reduceBNe, Nat.reduceLT, Int.reduceToNat, Int.reduceEq, Int.reduceLT, Int.reduceLE, reduceCtorEq, Nat.reduceMul, Nat.reduceLeDiff]
  rw [wp_seq]
  refine wp_region_i (by rfl) ?_
  simp only [go_sem, ↓evs_eq, Nat.reduceAdd, ↓reduceIte, Nat.reduceEqDiff, Nat.reduceBEq, Nat.reduceBNe, Nat.reduceLT, Int.reduceToNat, Int.reduceEq, Int.reduceLT, Int.reduceLE, reduceCtorEq, Nat.reduceMul, Nat.reduceLeDiff]
  obtain ⟨K5, hK6, hq⟩ := R.post_cut hq
  refine stringslite_CutPrefix_call (x0 := x0) (x1 := x1) hq (fun r4 hq => ?_) (fun v hv => ⟨(hX v hv).1, ?_⟩)
  · replace hq := hK6 _ hq
    simp only [go_sem, ↓evs_eq, Nat.reduceAdd, ↓reduceIte, Nat.reduceEqDiff, Nat.reduceBEq, Nat.reduceBNe, Nat.reduceLT, Int.reduceToNat, Int.reduceEq, Int.reduceLT, Int.reduceLE, reduceCtorEq, Nat.reduceMul, Nat.reduceLeDiff]
    rw [wp_ret]
    simp only [retQ, results, resultAll, resultOne, Nat.zero_add, scopeQ, go_sem, ↓evs_eq, Nat.reduceAdd, ↓reduceIte, Nat.reduceEqDiff, Nat.reduceBEq, Nat.reduceBNe, Nat.reduceLT, Int.reduceToNat, Int.reduceEq, Int.reduceLT, Int.reduceLE, reduceCtorEq, Nat.reduceMul, Nat.reduceLeDiff]
    refine ⟨_, (.refl _), ?_⟩
    exact hK _ hq
  · simp only [RC, scopeQ, retQ, ↓reduceIte, Bool.false_eq_true]
    exact (hX _ hv).2

def names_Join (x0 : List UInt8) (x1 : List UInt8) : R ((List UInt8)) :=
  if x0 = [] then (R.ok x1) else (if List.length x0 + List.length ([46]) ≤ 1000000000 then (if List.length (x0 ++ ([46])) + List.length x1 ≤ 1000000000 then (R.ok ((x0 ++ ([46])) ++ x1)) else R.stuck) else R.stuck)
theorem names_Join_call {h : H} {x0 : List UInt8} {x1 : List UInt8} {Q : Out → H → Prop} {KK : ((List UInt8)) → Prop} {X : V → Prop} (hq : (names_Join x0 x1).post KK X) (hK : ∀ r, KK r → Q (.ret (.str r)) h) (hX : ∀ v, X v → V.Cl 0 v ∧ Q (.panic v) h) : CA qprim 61 [.str x0, .str x1] h Q := by
  refine acalln hp Try.func61 rfl (by kernel_rfl) (n := 12) rfl (rs := [.tmp 4]) rfl [0, 1, 4, 6] [] false (by simp) ?_
  unfold names_Join at hq
  simp only [initEnv, List.map_cons, List.map_nil, List.getD_cons_zero, List.getD_cons_succ, List.getD_nil, V.demote]
  rw [wp_seq]
  refine wp_region_i (by rfl) ?_
  simp only [go_sem, ↓evs_eq, Nat.reduceAdd, ↓reduceIte, Nat.reduceEqDiff, Nat.reduceBEq, Nat.reduceBNe, Nat.reduceLT, Int.reduceToNat, Int.reduceEq, Int.reduceLT, Int.reduceLE, reduceCtorEq, Nat.reduceMul, Nat.reduceLeDiff]
  rw [wp_seq]
  rw [wp_seq]
  refine wp_region_i (by rfl) ?_
  simp only [go_sem, ↓evs_eq, Nat.reduceAdd, ↓reduceIte, Nat.reduceEqDiff, Nat.reduceBEq, Nat.reduceBNe, Nat.reduceLT, Int.reduceToNat, Int.reduceEq, Int.reduceLT, Int.reduceLE, reduceCtorEq, Nat.reduceMul, Nat.reduceLeDiff]
  rw [wp_cond]
  simp only [go_sem, ↓evs_eq, Nat.reduceAdd, ↓reduceIte, Nat.reduceEqDiff, Nat.reduceBEq, Nat.reduceBNe, Nat.reduceLT, Int.reduceToNat, Int.reduceEq, Int.reduceLT, Int.reduceLE, reduceCtorEq, Nat.reduceMul, Nat.reduceLeDiff]
  by_cases hc2 : x0 = []
  · replace hq := (R.post_if hq).1 hc2
    refine condK_t (congrArg V.bool (decide_eq_true hc2)) ?_
    rw [wp_seq]
    refine wp_region_i (by rfl) ?_
    simp only [go_sem, ↓evs_eq, Nat.reduceAdd, ↓reduceIte, Nat.reduceEqDiff, Nat.reduceBEq, Nat.reduceBNe, Nat.reduceLT, Int.reduceToNat, Int.reduceEq, Int.reduceLT, Int.reduceLE, reduceCtorEq, Nat.reduceMul, Nat.reduceLeDiff]
    rw [wp_ret]
    simp only [retQ, results, resultAll, resultOne, Nat.zero_add, scopeQ, go_sem, ↓evs_eq, Nat.reduceAdd, ↓reduceIte, Nat.reduceEqDiff, Nat.reduceBEq, Nat.reduceBNe, Nat.reduceLT, Int.reduceToNat, Int.reduceEq, Int.reduceLT, Int.reduceLE, reduceCtorEq, Nat.reduceMul, Nat.reduceLeDiff]
    refine ⟨_, (.refl _), ?_⟩
    exact hK _ hq
  · replace hq := (R.post_if hq).2 hc2
    refine condK_f (congrArg V.bool (decide_eq_false hc2)) ?_
    try simp only [wp_skip, RC]
    refine Wk.same ?_
    try simp only [RC]
    rw [wp_seq]
    refine wp_region_i (by rfl) ?_
    obtain ⟨g5, hq⟩ := R.guard hq
    obtain ⟨g6, hq⟩ := R.guard hq
    simp only [go_sem, ↓evs_eq, Nat.reduceAdd, ↓reduceIte, Nat.reduceEqDiff, Nat.reduceBEq, Nat.reduceBNe, Nat.reduceLT, Int.reduceToNat, Int.reduceEq, Int.reduceLT, Int.reduceLE, reduceCtorEq, Nat.reduceMul, Nat.reduceLeDiff]
    repeat (with_reducible refine And.intro (by first | omega | assumption) ?_)
    rw [wp_ret]
    simp only [retQ, results, resultAll, resultOne, Nat.zero_add, scopeQ, go_sem, ↓evs_eq, Nat.reduceAdd, ↓reduceIte, Nat.reduceEqDiff, Nat.reduceBEq, Nat.reduceBNe, Nat.reduceLT, Int.reduceToNat, Int.reduceEq, Int.reduceLT, Int.reduceLE, reduceCtorEq, Nat.reduceMul, Nat.reduceLeDiff]
    refine ⟨_, (.refl _), ?_⟩
    exact hK _ hq

def bytealg_LastIndexByteString_j0 : R (Int) :=
  R.ok (-1)
def bytealg_LastIndexByteString_l1 (x0 : List UInt8) (x1 : UInt8) : Nat → Int → R ((Unit) ⊕ (Int))
  | 0, _ => R.stuck
  | k + 1, x5_14 => if (0 : Int) ≤ x5_14 then (if 0 ≤ x5_14 ∧ x5_14 < (List.length x0 : Int) then (if ((List.getD x0 (Int.toNat x5_14) 0).toNat : Int) = (x1.toNat : Int) then (R.ok (.inr x5_14)) else (bytealg_LastIndexByteString_l1 x0 x1 k (IntKind.wrap .i64 (x5_14 - 1)))) else R.stuck) else (R.ok (.inl ()))
def bytealg_LastIndexByteString (x0 : List UInt8) (x1 : UInt8) : R (Int) :=
  (bytealg_LastIndexByteString_l1 x0 x1 Many (IntKind.wrap .i64 ((List.length x0 : Int) - 1))).bind fun | (.inl _) => bytealg_LastIndexByteString_j0 | (.inr rp28) => R.ok rp28
theorem bytealg_LastIndexByteString_call {h : H} {x0 : List UInt8} {x1 : UInt8} {Q : Out → H → Prop} {KK : (Int) → Prop} {X : V → Prop} (hq : (bytealg_LastIndexByteString x0 x1).post KK X) (hK : ∀ r, KK r → Q (.ret (.int .i64 r)) h) (hX : ∀ v, X v → V.Cl 0 v ∧ Q (.panic v) h) : CA qprim 110 [.str x0, .int .u8 (x1.toNat : Int)] h Q := by
  refine acalln hp Try.func110 rfl (by kernel_rfl) (n := 19) rfl (rs := [.tmp 4]) rfl [0, 1, 4, 5, 10, 17] [] false (by simp) ?_
  unfold bytealg_LastIndexByteString at hq
  simp only [initEnv, List.map_cons, List.map_nil, List.getD_cons_zero, List.getD_cons_succ, List.getD_nil, V.demote]
  rw [wp_seq]
  refine wp_region_i (by rfl) ?_
  simp only [go_sem, ↓evs_eq, Nat.reduceAdd, ↓reduceIte, Nat.reduceEqDiff, Nat.reduceBEq, Nat.reduceBNe, Nat.reduceLT, Int.reduceToNat, Int.reduceEq, Int.reduceLT, Int.reduceLE, reduceCtorEq, Nat.reduceMul, Nat.reduceLeDiff]
  refine seq_gen (acall_mono hp) (σ := V × V × V × V) (fun s => [(0, .str x0), (1, .int .u8 (x1.toNat : Int)), (4, s.1), (5, s.2.1), (10, s.2.2.1), (17, s.2.2.2)]) (fun s => h) (fun s => (bytealg_LastIndexByteString_j0).post KK X) (fun s hq => ?_) (fun N hN13 => ?_)
  · obtain ⟨y4_12, y5_12, y10_12, y17_12⟩ := s
    try dsimp only at hq ⊢
    unfold bytealg_LastIndexByteString_j0 at hq
    rw [wp_seq]
    refine wp_region_i (by rfl) ?_
    simp only [go_sem, ↓evs_eq, Nat.reduceAdd, ↓reduceIte, Nat.reduceEqDiff, Nat.reduceBEq, Nat.reduceBNe, Nat.reduceLT, Int.reduceToNat, Int.reduceEq, Int.reduceLT, Int.reduceLE, reduceCtorEq, Nat.reduceMul, Nat.reduceLeDiff]
    rw [wp_ret]
    simp only [retQ, results, resultAll, resultOne, Nat.zero_add, scopeQ, go_sem, ↓evs_eq, Nat.reduceAdd, ↓reduceIte, Nat.reduceEqDiff, Nat.reduceBEq, Nat.reduceBNe, Nat.reduceLT, Int.reduceToNat, Int.reduceEq, Int.reduceLT, Int.reduceLE, reduceCtorEq, Nat.reduceMul, Nat.reduceLeDiff]
    refine ⟨_, (.refl _), ?_⟩
    exact hK _ hq
  · rw [wp_seq]
    refine wp_region_i (by rfl) ?_
    simp only [go_sem, ↓evs_eq, Nat.reduceAdd, ↓reduceIte, Nat.reduceEqDiff, Nat.reduceBEq, Nat.reduceBNe, Nat.reduceLT, Int.reduceToNat, Int.reduceEq, Int.reduceLT, Int.reduceLE, reduceCtorEq, Nat.reduceMul, Nat.reduceLeDiff]
    rw [wp_block]
    refine loop_in ?_
    refine Wk.le (EnvLe.cons (.refl _) (EnvLe.cons (.refl _) (EnvLe.cons (.top _) (EnvLe.cons (.refl _) (EnvLe.cons (.refl _) (EnvLe.cons (.refl _) EnvLe.nil)))))) ?_
    obtain ⟨K19, hK20, hq⟩ := R.post_cut hq
    refine loop_gen (acall_mono hp) (σ := V × Int × V × V) (fun s => [(0, .str x0), (1, .int .u8 (x1.toNat : Int)), (4, s.1), (5, .int .i64 s.2.1), (10, s.2.2.1), (17, s.2.2.2)]) (fun s => h) (fun k s => (bytealg_LastIndexByteString_l1 x0 x1 k s.2.1).post K19 X) (fun s hs => hs) (fun k26 s hq N hN21 => ?_) _ (_, (IntKind.wrap .i64 ((List.length x0 : Int) - 1)), _, _) hq
    obtain ⟨y4_14, x5_14, y10_14, y17_14⟩ := s
    try dsimp only at hq ⊢
    rw [bytealg_LastIndexByteString_l1] at hq
    rw [wp_seq]
    rw [wp_seq]
    refine wp_region_i (by rfl) ?_
    simp only [go_sem, ↓evs_eq, Nat.reduceAdd, ↓reduceIte, Nat.reduceEqDiff, Nat.reduceBEq, Nat.reduceBNe, Nat.reduceLT, Int.reduceToNat, Int.reduceEq, Int.reduceLT, Int.reduceLE, reduceCtorEq, Nat.reduceMul, Nat.reduceLeDiff]
    rw [wp_cond]
    simp only [go_sem, ↓evs_eq, Nat.reduceAdd, ↓reduceIte, Nat.reduceEqDiff, Nat.reduceBEq, Nat.reduceBNe, Nat.reduceLT, Int.reduceToNat, Int.reduceEq, Int.reduceLT, Int.reduceLE, reduceCtorEq, Nat.reduceMul, Nat.reduceLeDiff]
    by_cases hc22 : (0 : Int) ≤ x5_14
    · replace hq := (R.post_if hq).1 hc22
      refine condK_t (congrArg V.bool (decide_eq_true hc22)) ?_
      try simp only [wp_skip, RC]
      refine Wk.same ?_
      try simp only [RC]
      rw [wp_seq]
      rw [wp_block]
      rw [wp_seq]
      refine wp_region_i (by rfl) ?_
      obtain ⟨g24, hq⟩ := R.guard hq
      simp only [go_sem, ↓evs_eq, Nat.reduceAdd, ↓reduceIte, Nat.reduceEqDiff, Nat.reduceBEq, Nat.reduceBNe, Nat.reduceLT, Int.reduceToNat, Int.reduceEq, Int.reduceLT, Int.reduceLE, reduceCtorEq, Nat.reduceMul, Nat.reduceLeDiff]
      repeat (with_reducible refine And.intro (by first | omega | assumption) ?_)
      rw [wp_cond]
      simp only [go_sem, ↓evs_eq, Nat.reduceAdd, ↓reduceIte, Nat.reduceEqDiff, Nat.reduceBEq, Nat.reduceBNe, Nat.reduceLT, Int.reduceToNat, Int.reduceEq, Int.reduceLT, Int.reduceLE, reduceCtorEq, Nat.reduceMul, Nat.reduceLeDiff]
      by_cases hc25 : ((List.getD x0 (Int.toNat x5_14) 0).toNat : Int) = (x1.toNat : Int)
      · replace hq := (R.post_if hq).1 hc25
        refine condK_t (congrArg V.bool (decide_eq_true hc25)) ?_
        rw [wp_seq]
        refine wp_region_i (by rfl) ?_
        simp only [go_sem, ↓evs_eq, Nat.reduceAdd, ↓reduceIte, Nat.reduceEqDiff, Nat.reduceBEq, Nat.reduceBNe, Nat.reduceLT, Int.reduceToNat, Int.reduceEq, Int.reduceLT, Int.reduceLE, reduceCtorEq, Nat.reduceMul, Nat.reduceLeDiff]
        rw [wp_ret]
        simp only [retQ, results, resultAll, resultOne, Nat.zero_add, scopeQ, go_sem, ↓evs_eq, Nat.reduceAdd, ↓reduceIte, Nat.reduceEqDiff, Nat.reduceBEq, Nat.reduceBNe, Nat.reduceLT, Int.reduceToNat, Int.reduceEq, Int.reduceLT, Int.reduceLE, reduceCtorEq, Nat.reduceMul, Nat.reduceLeDiff]
        refine ⟨_, (.refl _), ?_⟩
        replace hq := hK20 _ hq
        exact hK _ hq
      · replace hq := (R.post_if hq).2 hc25
        refine condK_f (congrArg V.bool (decide_eq_false hc25)) ?_
        try simp only [wp_skip, RC]
        refine Wk.same ?_
        try simp only [RC]
        refine Wk.same ?_
        try simp only [RC]
        refine wp_region_i (by rfl) ?_
        simp only [go_sem, ↓evs_eq, Nat.reduceAdd, ↓reduceIte, Nat.reduceEqDiff, Nat.reduceBEq, Nat.reduceBNe, Nat.reduceLT, Int.reduceToNat, Int.reduceEq, Int.reduceLT, Int.reduceLE, reduceCtorEq, Nat.reduceMul, Nat.reduceLeDiff]
        refine Wk.le (EnvLe.cons (.refl _) (EnvLe.cons (.refl _) (EnvLe.cons (.refl _) (EnvLe.cons (.refl _) (EnvLe.cons (.top _) (EnvLe.cons (.top _) EnvLe.nil)))))) ?_
        exact hN21 (_, (IntKind.wrap .i64 (x5_14 - 1)), _, _) hq
    · replace hq := (R.post_if hq).2 hc22
      refine condK_f (congrArg V.bool (decide_eq_false hc22)) ?_
      rw [wp_exit]
      try simp only [↓reduceIte, Nat.reduceEqDiff, reduceCtorEq, if_false, if_true, eq_self, Nat.succ_ne_self, RC]
      replace hq := hK20 _ hq
      try dsimp only at hq
      refine Wk.le (EnvLe.cons (.refl _) (EnvLe.cons (.refl _) (EnvLe.cons (.refl _) (EnvLe.cons (.top _) (EnvLe.cons (.top _) (EnvLe.cons (.refl _) EnvLe.nil)))))) ?_
      try simp only [RC]
      exact hN13 (_, _, _, _) hq

def strings_LastIndexByte (x0 : List UInt8) (x1 : UInt8) : R (Int) :=
  (bytealg_LastIndexByteString x0 x1).bind fun r4 => R.ok r4
theorem strings_LastIndexByte_call {h : H} {x0 : List UInt8} {x1 : UInt8} {Q : Out → H → Prop} {KK : (Int) → Prop} {X : V → Prop} (hq : (strings_LastIndexByte x0 x1).post KK X) (hK : ∀ r, KK r → Q (.ret (.int .i64 r)) h) (hX : ∀ v, X v → V.Cl 0 v ∧ Q (.panic v) h) : CA qprim 85 [.str x0, .int .u8 (x1.toNat : Int)] h Q := by
  refine acalln hp Try.func85 rfl (by kernel_rfl) (n := 8) rfl (rs := [.tmp 4]) rfl [0, 1, 4] [] false (by simp) ?_
  unfold strings_LastIndexByte at hq
  simp only [initEnv, List.map_cons, List.map_nil, List.getD_cons_zero, List.getD_cons_succ, List.getD_nil, V.demote]
  rw [wp_seq]
  refine wp_region_i (by rfl) ?_
  simp only [go_sem, ↓evs_eq, Nat.reduceAdd, ↓reduceIte, Nat.reduceEqDiff, Nat.reduceBEq, Nat.reduceBNe, Nat.reduceLT, Int.reduceToNat, Int.reduceEq, Int.reduceLT, Int.reduceLE, reduceCtorEq, Nat.reduceMul, Nat.reduceLeDiff]
  rw [wp_seq]
  refine wp_region_i (by rfl) ?_
  simp only [go_sem, ↓evs_eq, Nat.reduceAdd, ↓reduceIte, Nat.reduceEqDiff, Nat.reduceBEq, Nat.reduceBNe, Nat.reduceLT, Int.reduceToNat, Int.reduceEq, Int.reduceLT, Int.reduceLE, reduceCtorEq, Nat.reduceMul, Nat.reduceLeDiff]
  obtain ⟨K5, hK6, hq⟩ := R.post_cut hq
  refine bytealg_LastIndexByteString_call (x0 := x0) (x1 := x1) hq (fun r4 hq => ?_) (fun v hv => ⟨(hX v hv).1, ?_⟩)
  · replace hq := hK6 _ hq
    simp only [go_sem, ↓evs_eq, Nat.reduceAdd, ↓reduceIte, Nat.reduceEqDiff, Nat.reduceBEq, Nat.reduceBNe, Nat.reduceLT, Int.reduceToNat, Int.reduceEq, Int.reduceLT, Int.reduceLE, reduceCtorEq, Nat.reduceMul, Nat.reduceLeDiff]
    rw [wp_ret]
    simp only [retQ, results, resultAll, resultOne, Nat.zero_add, scopeQ, go_sem, ↓evs_eq, Nat.reduceAdd, ↓reduceIte, Nat.reduceEqDiff, Nat.reduceBEq, Nat.reduceBNe, Nat.reduceLT, Int.reduceToNat, Int.reduceEq, Int.reduceLT, Int.reduceLE, reduceCtorEq, Nat.reduceMul, Nat.reduceLeDiff]
    refine ⟨_, (.refl _), ?_⟩
    exact hK _ hq
  · simp only [RC, scopeQ, retQ, ↓reduceIte, Bool.false_eq_true]
    exact (hX _ hv).2

def names_Parent (x0 : List UInt8) : R ((List UInt8) × (List UInt8)) :=
  (strings_LastIndexByte x0 (46 : UInt8)).bind fun r4 => if 0 ≤ (if r4 < 0 then 0 else r4) ∧ (if r4 < 0 then 0 else r4) ≤ (List.length x0 : Int) then (if 0 ≤ (IntKind.wrap .i64 (r4 + 1)) ∧ (IntKind.wrap .i64 (r4 + 1)) ≤ (List.length x0 : Int) then (R.ok ((List.take (Int.toNat (if r4 < 0 then 0 else r4)) x0), (List.drop (Int.toNat (IntKind.wrap .i64 (r4 + 1))) x0))) else R.stuck) else R.stuck
theorem names_Parent_call {h : H} {x0 : List UInt8} {Q : Out → H → Prop} {KK : ((List UInt8) × (List UInt8)) → Prop} {X : V → Prop} (hq : (names_Parent x0).post KK X) (hK : ∀ r, KK r → Q (.ret (.tup [.str r.1, .str r.2])) h) (hX : ∀ v, X v → V.Cl 0 v ∧ Q (.panic v) h) : CA qprim 62 [.str x0] h Q := by
  refine acalln hp Try.func62 rfl (by kernel_rfl) (n := 15) rfl (rs := [.tmp 2, .tmp 3]) rfl [0, 2, 3, 4] [] false (by simp) ?_
  unfold names_Parent at hq
  simp only [initEnv, List.map_cons, List.map_nil, List.getD_cons_zero, List.getD_cons_succ, List.getD_nil, V.demote]
  rw [wp_seq]
  refine wp_region_i (by rfl) ?_
  simp only [go_sem, ↓evs_eq, Nat.reduceAdd, ↓reduceIte, Nat.reduceEqDiff, Nat.reduceBEq, Nat.reduceBNe, Nat.reduceLT, Int.reduceToNat, Int.reduceEq, Int.reduceLT, Int.reduceLE, reduceCtorEq, Nat.reduceMul, Nat.reduceLeDiff]
  rw [wp_seq]
  refine wp_region_i (by rfl) ?_
  simp only [go_sem, ↓evs_eq, Nat.reduceAdd, ↓reduceIte, Nat.reduceEqDiff, Nat.reduceBEq, Nat.reduceBNe, Nat.reduceLT, Int.reduceToNat, Int.reduceEq, Int.reduceLT, Int.reduceLE, reduceCtorEq, Nat.reduceMul, Nat.reduceLeDiff]
  obtain ⟨K9, hK10, hq⟩ := R.post_cut hq
  refine strings_LastIndexByte_call (x0 := x0) (x1 := (46 : UInt8)) hq (fun r4 hq => ?_) (fun v hv => ⟨(hX v hv).1, ?_⟩)
  · replace hq := hK10 _ hq
    simp only [go_sem, ↓evs_eq, Nat.reduceAdd, ↓reduceIte, Nat.reduceEqDiff, Nat.reduceBEq, Nat.reduceBNe, Nat.reduceLT, Int.reduceToNat, Int.reduceEq, Int.reduceLT, Int.reduceLE, reduceCtorEq, Nat.reduceMul, Nat.reduceLeDiff]
    rw [wp_seq]
    refine wp_draw (acall_mono hp) (by kernel_rfl) (by rfl) ?_
    obtain ⟨g7, hq⟩ := R.guard hq
    obtain ⟨g8, hq⟩ := R.guard hq
    simp only [go_sem, ↓evs_eq, Nat.reduceAdd, ↓reduceIte, Nat.reduceEqDiff, Nat.reduceBEq, Nat.reduceBNe, Nat.reduceLT, Int.reduceToNat, Int.reduceEq, Int.reduceLT, Int.reduceLE, reduceCtorEq, Nat.reduceMul, Nat.reduceLeDiff]
    repeat (with_reducible refine And.intro (by first | omega | assumption) ?_)
    rw [wp_ret]
    simp only [retQ, results, resultAll, resultOne, Nat.zero_add, scopeQ, go_sem, ↓evs_eq, Nat.reduceAdd, ↓reduceIte, Nat.reduceEqDiff, Nat.reduceBEq, Nat.reduceBNe, Nat.reduceLT, Int.reduceToNat, Int.reduceEq, Int.reduceLT, Int.reduceLE, reduceCtorEq, Nat.reduceMul, Nat.reduceLeDiff]
    refine ⟨_, (.refl _), ?_⟩
    exact hK _ hq
  · simp only [RC, scopeQ, retQ, ↓reduceIte, Bool.false_eq_true]
    exact (hX _ hv).2

def names_Places_j1 (x7_87 : List (List UInt8)) : R ((List (List UInt8))) :=
  R.ok x7_87
def names_Places_l2 (x1 : List UInt8) : Nat → List UInt8 → List (List UInt8) → R ((List (List UInt8)))
  | 0, _, _ => R.stuck
  | k + 1, x0_105, x7_105 => (names_Join x0_105 x1).bind fun r131 => if List.length x7_105 + List.length ([r131]) ≤ 1000000000 then (if x0_105 = [] then (R.ok (x7_105 ++ ([r131]))) else ((names_Parent x0_105).bind fun r138 => names_Places_l2 x1 k r138.1 (x7_105 ++ ([r131])))) else R.stuck
def names_Places_l0 (x1 : List UInt8) : Nat → List UInt8 → R ((List (List UInt8)))
  | 0, _ => R.stuck
  | k + 1, x0_13 => (names_Places_l2 x1 Many x0_13 []).bind fun x7p144 => names_Places_j1 x7p144
def names_Places (x0 : List UInt8) (x1 : List UInt8) : R ((List (List UInt8))) :=
  (strings_CutPrefix x1 ([46])).bind fun r11 => if r11.2 = true then (R.ok ([r11.1])) else (names_Places_l0 x1 Many x0)
theorem names_Places_call {h : H} {x0 : List UInt8} {x1 : List UInt8} {Q : Out → H → Prop} {KK : ((List (List UInt8))) → Prop} {X : V → Prop} (hq : (names_Places x0 x1).post KK X) (hK : ∀ r, KK r → Q (.ret (.sl 1 (List.map V.str r))) h) (hX : ∀ v, X v → V.Cl 0 v ∧ Q (.panic v) h) : CA qprim 29 [.str x0, .str x1] h Q := by
  refine acalln hp Try.func29 rfl (by kernel_rfl) (n := 30) rfl (rs := [.tmp 4]) rfl [0, 1, 4, 5, 6, 7, 13, 23] [16] false (by simp) ?_
  unfold names_Places at hq
  simp only [initEnv, List.map_cons, List.map_nil, List.getD_cons_zero, List.getD_cons_succ, List.getD_nil, V.demote]
  rw [wp_seq]
  refine wp_region_i (by rfl) ?_
  simp only [go_sem, ↓evs_eq, Nat.reduceAdd, ↓reduceIte, Nat.reduceEqDiff, Nat.reduceBEq, Nat.reduceBNe, Nat.reduceLT, Int.reduceToNat, Int.reduceEq, Int.reduceLT, Int.reduceLE, reduceCtorEq, Nat.reduceMul, Nat.reduceLeDiff]
  refine scope_gen (acall_mono hp) (σ := (List UInt8) × V × V × V × V × V) 0 (fun s => [(0, .str s.1), (1, .str x1), (4, s.2.1), (5, s.2.2.1), (6, s.2.2.2.1), (7, .nils 9 1), (13, s.2.2.2.2.1), (23, s.2.2.2.2.2)]) (fun s => h) (fun k s => (names_Places_l0 x1 k s.1).post KK X) (fun s hs => hs) (fun k145 s hq N hN86 => ?_) (fun hS146 N hN86 => ?_)
  · obtain ⟨x0_13, y4_13, y5_13, y6_13, y13_13, y23_13⟩ := s
    try dsimp only at hq ⊢
    rw [names_Places_l0] at hq
    simp only [wpAt, hasLabel, Bool.false_eq_true, ↓reduceIte, Bool.or_false, Bool.false_or, Nat.reduceBEq, beq_self_eq_true, eq_self, true_and, Bool.or_true, Bool.true_or, RC]
    refine seq_gen (acall_mono hp) (σ := V × V × V × V × (List (List UInt8)) × V × V) (fun s => [(0, s.1), (1, .str x1), (4, s.2.1), (5, s.2.2.1), (6, s.2.2.2.1), (7, .own 9 1 (List.map V.str s.2.2.2.2.1)), (13, s.2.2.2.2.2.1), (23, s.2.2.2.2.2.2)]) (fun s => h) (fun s => (names_Places_j1 s.2.2.2.2.1).post KK X) (fun s hq => ?_) (fun N hN88 => ?_)
    · obtain ⟨y0_87, y4_87, y5_87, y6_87, x7_87, y13_87, y23_87⟩ := s
      try dsimp only at hq ⊢
      unfold names_Places_j1 at hq
      rw [wp_seq]
      refine wp_region_i (by rfl) ?_
      simp only [go_sem, ↓evs_eq, Nat.reduceAdd, ↓reduceIte, Nat.reduceEqDiff, Nat.reduceBEq, Nat.reduceBNe, Nat.reduceLT, Int.reduceToNat, Int.reduceEq, Int.reduceLT, Int.reduceLE, reduceCtorEq, Nat.reduceMul, Nat.reduceLeDiff]
      rw [wp_ret]
      simp only [retQ, results, resultAll, resultOne, Nat.zero_add, scopeQ, go_sem, ↓evs_eq, Nat.reduceAdd, ↓reduceIte, Nat.reduceEqDiff, Nat.reduceBEq, Nat.reduceBNe, Nat.reduceLT, Int.reduceToNat, Int.reduceEq, Int.reduceLT, Int.reduceLE, reduceCtorEq, Nat.reduceMul, Nat.reduceLeDiff]
      refine ⟨_, (.refl _), ?_⟩
      exact hK _ hq
    · rw [wp_block]
      refine loop_in ?_
      refine Wk.le (EnvLe.cons (.refl _) (EnvLe.cons (.refl _) (EnvLe.cons (.refl _) (EnvLe.cons (.refl _) (EnvLe.cons (.refl _) (EnvLe.cons (.nown _ _) (EnvLe.cons (.refl _) (EnvLe.cons (.refl _) EnvLe.nil)))))))) ?_
      obtain ⟨K123, hK124, hq⟩ := R.post_cut hq
      refine loop_gen (acall_mono hp) (σ := (List UInt8) × (List (List UInt8)) × V) (fun s => [(0, .str s.1), (1, .str x1), (4, y4_13), (5, y5_13), (6, y6_13), (7, .own 9 1 (List.map V.str s.2.1)), (13, y13_13), (23, s.2.2)]) (fun s => h) (fun k s => (names_Places_l2 x1 k s.1 s.2.1).post K123 X) (fun s hs => hs) (fun k143 s hq N hN125 => ?_) _ (x0_13, [], _) hq
      obtain ⟨x0_105, x7_105, y23_105⟩ := s
      try dsimp only at hq ⊢
      rw [names_Places_l2] at hq
      rw [wp_block]
      rw [wp_seq]
      refine wp_region_i (by rfl) ?_
      simp only [go_sem, ↓evs_eq, Nat.reduceAdd, ↓reduceIte, Nat.reduceEqDiff, Nat.reduceBEq, Nat.reduceBNe, Nat.reduceLT, Int.reduceToNat, Int.reduceEq, Int.reduceLT, Int.reduceLE, reduceCtorEq, Nat.reduceMul, Nat.reduceLeDiff]
      obtain ⟨K141, hK142, hq⟩ := R.post_cut hq
      refine names_Join_call (x0 := x0_105) (x1 := x1) hq (fun r131 hq => ?_) (fun v hv => ⟨(hX v hv).1, ?_⟩)
      · replace hq := hK142 _ hq
        obtain ⟨g132, hq⟩ := R.guard hq
        have e133 : List.map V.str x7_105 ++ [.str r131] = List.map V.str (x7_105 ++ ([r131])) := (List.map_append (f := V.str) (l₁ := x7_105) (l₂ := [r131])).symm
        simp only [e133, go_sem, ↓evs_eq, Nat.reduceAdd, ↓reduceIte, Nat.reduceEqDiff, Nat.reduceBEq, Nat.reduceBNe, Nat.reduceLT, Int.reduceToNat, Int.reduceEq, Int.reduceLT, Int.reduceLE, reduceCtorEq, Nat.reduceMul, Nat.reduceLeDiff]
        repeat (with_reducible refine And.intro (by first | omega | assumption) ?_)
        rw [wp_seq]
        rw [wp_seq]
        refine wp_region_i (by rfl) ?_
        simp only [go_sem, ↓evs_eq, Nat.reduceAdd, ↓reduceIte, Nat.reduceEqDiff, Nat.reduceBEq, Nat.reduceBNe, Nat.reduceLT, Int.reduceToNat, Int.reduceEq, Int.reduceLT, Int.reduceLE, reduceCtorEq, Nat.reduceMul, Nat.reduceLeDiff]
        rw [wp_cond]
        simp only [go_sem, ↓evs_eq, Nat.reduceAdd, ↓reduceIte, Nat.reduceEqDiff, Nat.reduceBEq, Nat.reduceBNe, Nat.reduceLT, Int.reduceToNat, Int.reduceEq, Int.reduceLT, Int.reduceLE, reduceCtorEq, Nat.reduceMul, Nat.reduceLeDiff]
        by_cases hc134 : x0_105 = []
        · replace hq := (R.post_if hq).1 hc134
          refine condK_t (congrArg V.bool (decide_eq_true hc134)) ?_
          rw [wp_exit]
          try simp only [↓reduceIte, Nat.reduceEqDiff, reduceCtorEq, if_false, if_true, eq_self, Nat.succ_ne_self, RC]
          replace hq := hK124 _ hq
          try dsimp only at hq
          refine Wk.le (EnvLe.cons (.top _) (EnvLe.cons (.refl _) (EnvLe.cons (.refl _) (EnvLe.cons (.refl _) (EnvLe.cons (.refl _) (EnvLe.cons (.refl _) (EnvLe.cons (.refl _) (EnvLe.cons (.top _) EnvLe.nil)))))))) ?_
          try simp only [RC]
          exact hN88 (_, _, _, _, (x7_105 ++ ([r131])), _, _) hq
        · replace hq := (R.post_if hq).2 hc134
          refine condK_f (congrArg V.bool (decide_eq_false hc134)) ?_
          try simp only [wp_skip, RC]
          refine Wk.same ?_
          try simp only [RC]
          refine wp_region_i (by rfl) ?_
          simp only [go_sem, ↓evs_eq, Nat.reduceAdd, ↓reduceIte, Nat.reduceEqDiff, Nat.reduceBEq, Nat.reduceBNe, Nat.reduceLT, Int.reduceToNat, Int.reduceEq, Int.reduceLT, Int.reduceLE, reduceCtorEq, Nat.reduceMul, Nat.reduceLeDiff]
          obtain ⟨K139, hK140, hq⟩ := R.post_cut hq
          refine names_Parent_call (x0 := x0_105) hq (fun r138 hq => ?_) (fun v hv => ⟨(hX v hv).1, ?_⟩)
          · replace hq := hK140 _ hq
            simp only [go_sem, ↓evs_eq, Nat.reduceAdd, ↓reduceIte, Nat.reduceEqDiff, Nat.reduceBEq, Nat.reduceBNe, Nat.reduceLT, Int.reduceToNat, Int.reduceEq, Int.reduceLT, Int.reduceLE, reduceCtorEq, Nat.reduceMul, Nat.reduceLeDiff]
            refine Wk.le (EnvLe.cons (.refl _) (EnvLe.cons (.refl _) (EnvLe.cons (.refl _) (EnvLe.cons (.refl _) (EnvLe.cons (.refl _) (EnvLe.cons (.refl _) (EnvLe.cons (.refl _) (EnvLe.cons (.top _) EnvLe.nil)))))))) ?_
            try simp only [RC]
            refine Wk.same ?_
            exact hN125 (r138.1, (x7_105 ++ ([r131])), _) hq
          · simp only [RC, scopeQ, retQ, ↓reduceIte, Bool.false_eq_true]
            exact (hX _ hv).2
      · simp only [RC, scopeQ, retQ, ↓reduceIte, Bool.false_eq_true]
        exact (hX _ hv).2
  · rw [wp_seq]
    rw [wp_seq]
    refine wp_region_i (by rfl) ?_
    simp only [go_sem, ↓evs_eq, Nat.reduceAdd, ↓reduceIte, Nat.reduceEqDiff, Nat.reduceBEq, Nat.reduceBNe, Nat.reduceLT, Int.reduceToNat, Int.reduceEq, Int.reduceLT, Int.reduceLE, reduceCtorEq, Nat.reduceMul, Nat.reduceLeDiff]
    obtain ⟨K147, hK148, hq⟩ := R.post_cut hq
    refine strings_CutPrefix_call (x0 := x1) (x1 := [46]) hq (fun r11 hq => ?_) (fun v hv => ⟨(hX v hv).1, ?_⟩)
    · replace hq := hK148 _ hq
      simp only [go_sem, ↓evs_eq, Nat.reduceAdd, ↓reduceIte, Nat.reduceEqDiff, Nat.reduceBEq, Nat.reduceBNe, Nat.reduceLT, Int.reduceToNat, Int.reduceEq, Int.reduceLT, Int.reduceLE, reduceCtorEq, Nat.reduceMul, Nat.reduceLeDiff]
      rw [wp_seq]
      refine wp_region_i (by rfl) ?_
      simp only [go_sem, ↓evs_eq, Nat.reduceAdd, ↓reduceIte, Nat.reduceEqDiff, Nat.reduceBEq, Nat.reduceBNe, Nat.reduceLT, Int.reduceToNat, Int.reduceEq, Int.reduceLT, Int.reduceLE, reduceCtorEq, Nat.reduceMul, Nat.reduceLeDiff]
      rw [wp_cond]
      simp only [go_sem, ↓evs_eq, Nat.reduceAdd, ↓reduceIte, Nat.reduceEqDiff, Nat.reduceBEq, Nat.reduceBNe, Nat.reduceLT, Int.reduceToNat, Int.reduceEq, Int.reduceLT, Int.reduceLE, reduceCtorEq, Nat.reduceMul, Nat.reduceLeDiff]
      by_cases hc12 : r11.2 = true
      · replace hq := (R.post_if hq).1 hc12
        refine condK_t (congrArg V.bool (hc12)) ?_
        rw [wp_seq]
        refine wp_region_i (by rfl) ?_
        simp only [go_sem, ↓evs_eq, Nat.reduceAdd, ↓reduceIte, Nat.reduceEqDiff, Nat.reduceBEq, Nat.reduceBNe, Nat.reduceLT, Int.reduceToNat, Int.reduceEq, Int.reduceLT, Int.reduceLE, reduceCtorEq, Nat.reduceMul, Nat.reduceLeDiff]
        rw [wp_ret]
        simp only [retQ, results, resultAll, resultOne, Nat.zero_add, scopeQ, go_sem, ↓evs_eq, Nat.reduceAdd, ↓reduceIte, Nat.reduceEqDiff, Nat.reduceBEq, Nat.reduceBNe, Nat.reduceLT, Int.reduceToNat, Int.reduceEq, Int.reduceLT, Int.reduceLE, reduceCtorEq, Nat.reduceMul, Nat.reduceLeDiff]
        refine ⟨_, (.refl _), ?_⟩
        exact hK _ hq
      · replace hq := (R.post_if hq).2 hc12
        replace hc12 := eq_false_of_ne_true hc12
        refine condK_f (congrArg V.bool (hc12)) ?_
        try simp only [wp_skip, RC]
        refine Wk.same ?_
        try simp only [RC]
        rw [wp_seq]
        refine wp_region_i (by rfl) ?_
        simp only [go_sem, ↓evs_eq, Nat.reduceAdd, ↓reduceIte, Nat.reduceEqDiff, Nat.reduceBEq, Nat.reduceBNe, Nat.reduceLT, Int.reduceToNat, Int.reduceEq, Int.reduceLT, Int.reduceLE, reduceCtorEq, Nat.reduceMul, Nat.reduceLeDiff]
        rw [wp_seq]
        rw [wp_label]
        refine Wk.le (EnvLe.cons (.refl _) (EnvLe.cons (.refl _) (EnvLe.cons (.top _) (EnvLe.cons (.top _) (EnvLe.cons (.top _) (EnvLe.cons (.refl _) (EnvLe.cons (.top _) (EnvLe.cons (.refl _) EnvLe.nil)))))))) ?_
        try simp only [RC]
        obtain ⟨k, hk⟩ := many_succ
        rw [hk] at hq
        have hst := hS146 k (x0, .top, .top, .top, .top, .top) hq N (fun s' hs' => hN86 k s' hs')
        simp only [wpAt, hasLabel, Bool.false_eq_true, ↓reduceIte, Bool.or_false, Bool.false_or, Nat.reduceBEq, beq_self_eq_true, eq_self, true_and, Bool.or_true, Bool.true_or, RC] at hst
        exact hst
    · simp only [RC, scopeQ, retQ, ↓reduceIte, Bool.false_eq_true]
      exact (hX _ hv).2

def pool_Pool_Look_j0 : R ((List UInt8) × Bool) :=
  R.ok ([], false)
def pool_Pool_Look_l1 (r36 : (List (List UInt8))) : Nat → Int → R (Unit)
  | 0, _ => R.stuck
  | k + 1, x19_37 => if x19_37 < (List.length r36 : Int) then (if 0 ≤ x19_37 ∧ x19_37 < (List.length r36 : Int) then ((pool_Pool_get (gt r36 x19_37)).bind fun r60 => pool_Pool_Look_l1 r36 k (IntKind.wrap .i64 (x19_37 + 1))) else R.stuck) else (R.ok ())
def pool_Pool_Look (x1 : List UInt8) (x2 : List UInt8) (x3 : List (List UInt8)) (x4 : List Int) : R ((List UInt8) × Bool) :=
  (names_Places x1 x2).bind fun r36 => (pool_Pool_Look_l1 r36 Many 0).bind fun _ => pool_Pool_Look_j0
theorem pool_Pool_Look_call {h : H} {x1 : List UInt8} {x2 : List UInt8} {x3 : List (List UInt8)} {x4 : List Int} {Q : Out → H → Prop} {KK : ((List UInt8) × Bool) → Prop} {X : V → Prop} (hq : (pool_Pool_Look x1 x2 x3 x4).post KK X) (hK : ∀ r, KK r → Q (.ret (.tup [.str r.1, .bool r.2])) h) (hX : ∀ v, X v → V.Cl 0 v ∧ Q (.panic v) h) : CA qprim 14 [.nilp, .str x1, .str x2, .sl 1 (List.map V.str x3), .sl 1 (List.map (V.int .i64) x4)] h Q := by
  refine acalln hp Try.func14 rfl (by kernel_rfl) (n := 46) rfl (rs := [.tmp 10, .tmp 11]) rfl [0, 1, 2, 3, 4, 10, 11, 13, 14, 17, 18, 19, 20, 43] [] false (by simp) ?_
  unfold pool_Pool_Look at hq
  simp only [initEnv, List.map_cons, List.map_nil, List.getD_cons_zero, List.getD_cons_succ, List.getD_nil, V.demote]
  rw [wp_seq]
  refine wp_region_i (by rfl) ?_
  simp only [go_sem, ↓evs_eq, Nat.reduceAdd, ↓reduceIte, Nat.reduceEqDiff, Nat.reduceBEq, Nat.reduceBNe, Nat.reduceLT, Int.reduceToNat, Int.reduceEq, Int.reduceLT, Int.reduceLE, reduceCtorEq, Nat.reduceMul, Nat.reduceLeDiff]
  refine seq_gen (acall_mono hp) (σ := V × V × V × V × V × V × V × V × V) (fun s => [(0, .nilp), (1, .str x1), (2, .str x2), (3, .sl 1 (List.map V.str x3)), (4, .sl 1 (List.map (V.int .i64) x4)), (10, s.1), (11, s.2.1), (13, s.2.2.1), (14, s.2.2.2.1), (17, s.2.2.2.2.1), (18, s.2.2.2.2.2.1), (19, s.2.2.2.2.2.2.1), (20, s.2.2.2.2.2.2.2.1), (43, s.2.2.2.2.2.2.2.2)]) (fun s => h) (fun s => (pool_Pool_Look_j0).post KK X) (fun s hq => ?_) (fun N hN32 => ?_)
  · obtain ⟨y10_31, y11_31, y13_31, y14_31, y17_31, y18_31, y19_31, y20_31, y43_31⟩ := s
    try dsimp only at hq ⊢
    unfold pool_Pool_Look_j0 at hq
    rw [wp_seq]
    refine wp_region_i (by rfl) ?_
    simp only [go_sem, ↓evs_eq, Nat.reduceAdd, ↓reduceIte, Nat.reduceEqDiff, Nat.reduceBEq, Nat.reduceBNe, Nat.reduceLT, Int.reduceToNat, Int.reduceEq, Int.reduceLT, Int.reduceLE, reduceCtorEq, Nat.reduceMul, Nat.reduceLeDiff]
    rw [wp_ret]
    simp only [retQ, results, resultAll, resultOne, Nat.zero_add, scopeQ, go_sem, ↓evs_eq, Nat.reduceAdd, ↓reduceIte, Nat.reduceEqDiff, Nat.reduceBEq, Nat.reduceBNe, Nat.reduceLT, Int.reduceToNat, Int.reduceEq, Int.reduceLT, Int.reduceLE, reduceCtorEq, Nat.reduceMul, Nat.reduceLeDiff]
    refine ⟨_, (.refl _), ?_⟩
    exact hK _ hq
  · rw [wp_seq]
    refine wp_region_i (by rfl) ?_
    simp only [go_sem, ↓evs_eq, Nat.reduceAdd, ↓reduceIte, Nat.reduceEqDiff, Nat.reduceBEq, Nat.reduceBNe, Nat.reduceLT, Int.reduceToNat, Int.reduceEq, Int.reduceLT, Int.reduceLE, reduceCtorEq, Nat.reduceMul, Nat.reduceLeDiff]
    obtain ⟨K65, hK66, hq⟩ := R.post_cut hq
    refine names_Places_call (x0 := x1) (x1 := x2) hq (fun r36 hq => ?_) (fun v hv => ⟨(hX v hv).1, ?_⟩)
    · replace hq := hK66 _ hq
      simp only [go_sem, ↓evs_eq, Nat.reduceAdd, ↓reduceIte, Nat.reduceEqDiff, Nat.reduceBEq, Nat.reduceBNe, Nat.reduceLT, Int.reduceToNat, Int.reduceEq, Int.reduceLT, Int.reduceLE, reduceCtorEq, Nat.reduceMul, Nat.reduceLeDiff]
      rw [wp_block]
      refine loop_in ?_
      refine Wk.le (EnvLe.cons (.refl _) (EnvLe.cons (.refl _) (EnvLe.cons (.refl _) (EnvLe.cons (.refl _) (EnvLe.cons (.refl _) (EnvLe.cons (.top _) (EnvLe.cons (.top _) (EnvLe.cons (.refl _) (EnvLe.cons (.refl _) (EnvLe.cons (.refl _) (EnvLe.cons (.refl _) (EnvLe.cons (.refl _) (EnvLe.cons (.refl _) (EnvLe.cons (.refl _) EnvLe.nil)))))))))))))) ?_
      obtain ⟨K49, hK50, hq⟩ := R.post_cut hq
      refine loop_gen (acall_mono hp) (σ := V × V × V × V × Int × V × V) (fun s => [(0, .nilp), (1, .str x1), (2, .str x2), (3, .sl 1 (List.map V.str x3)), (4, .sl 1 (List.map (V.int .i64) x4)), (10, s.1), (11, s.2.1), (13, s.2.2.1), (14, s.2.2.2.1), (17, .sl 1 (List.map V.str r36)), (18, .int .i64 (List.length r36 : Int)), (19, .int .i64 s.2.2.2.2.1), (20, s.2.2.2.2.2.1), (43, s.2.2.2.2.2.2)]) (fun s => h) (fun k s => (pool_Pool_Look_l1 r36 k s.2.2.2.2.1).post K49 X) (fun s hs => hs) (fun k63 s hq N hN51 => ?_) _ (_, _, _, _, 0, _, _) hq
      obtain ⟨y10_37, y11_37, y13_37, y14_37, x19_37, y20_37, y43_37⟩ := s
      try dsimp only at hq ⊢
      rw [pool_Pool_Look_l1] at hq
      rw [wp_seq]
      refine wp_region_i (by rfl) ?_
      simp only [go_sem, ↓evs_eq, Nat.reduceAdd, ↓reduceIte, Nat.reduceEqDiff, Nat.reduceBEq, Nat.reduceBNe, Nat.reduceLT, Int.reduceToNat, Int.reduceEq, Int.reduceLT, Int.reduceLE, reduceCtorEq, Nat.reduceMul, Nat.reduceLeDiff]
      rw [wp_seq]
      rw [wp_cond]
      simp only [go_sem, ↓evs_eq, Nat.reduceAdd, ↓reduceIte, Nat.reduceEqDiff, Nat.reduceBEq, Nat.reduceBNe, Nat.reduceLT, Int.reduceToNat, Int.reduceEq, Int.reduceLT, Int.reduceLE, reduceCtorEq, Nat.reduceMul, Nat.reduceLeDiff]
      by_cases hc52 : x19_37 < (List.length r36 : Int)
      · replace hq := (R.post_if hq).1 hc52
        refine condK_t (congrArg V.bool (decide_eq_true hc52)) ?_
        try simp only [wp_skip, RC]
        refine Wk.same ?_
        try simp only [RC]
        rw [wp_seq]
        rw [wp_block]
        rw [wp_seq]
        refine wp_region_i (by rfl) ?_
        obtain ⟨g55, hq⟩ := R.guard hq
        have e56 := map_gt (f := V.str) (l := r36) (i := x19_37) g55
        simp only [e56, go_sem, ↓evs_eq, Nat.reduceAdd, ↓reduceIte, Nat.reduceEqDiff, Nat.reduceBEq, Nat.reduceBNe, Nat.reduceLT, Int.reduceToNat, Int.reduceEq, Int.reduceLT, Int.reduceLE, reduceCtorEq, Nat.reduceMul, Nat.reduceLeDiff]
        repeat (with_reducible refine And.intro (by first | omega | assumption) ?_)
        rw [wp_seq]
        refine wp_region_i (by rfl) ?_
        simp only [go_sem, ↓evs_eq, Nat.reduceAdd, ↓reduceIte, Nat.reduceEqDiff, Nat.reduceBEq, Nat.reduceBNe, Nat.reduceLT, Int.reduceToNat, Int.reduceEq, Int.reduceLT, Int.reduceLE, reduceCtorEq, Nat.reduceMul, Nat.reduceLeDiff]
        obtain ⟨K61, hK62, hq⟩ := R.post_cut hq
        refine pool_Pool_get_call (x1 := (gt r36 x19_37)) hq (fun r60 hq => ?_) (fun v hv => ⟨(hX v hv).1, ?_⟩)
        · replace hq := hK62 _ hq
          simp only [go_sem, ↓evs_eq, Nat.reduceAdd, ↓reduceIte, Nat.reduceEqDiff, Nat.reduceBEq, Nat.reduceBNe, Nat.reduceLT, Int.reduceToNat, Int.reduceEq, Int.reduceLT, Int.reduceLE, reduceCtorEq, Nat.reduceMul, Nat.reduceLeDiff]
          rw [wp_seq]
          refine wp_region_i (by rfl) ?_
          simp only [go_sem, ↓evs_eq, Nat.reduceAdd, ↓reduceIte, Nat.reduceEqDiff, Nat.reduceBEq, Nat.reduceBNe, Nat.reduceLT, Int.reduceToNat, Int.reduceEq, Int.reduceLT, Int.reduceLE, reduceCtorEq, Nat.reduceMul, Nat.reduceLeDiff]
          rw [wp_cond]
          simp only [go_sem, ↓evs_eq, Nat.reduceAdd, ↓reduceIte, Nat.reduceEqDiff, Nat.reduceBEq, Nat.reduceBNe, Nat.reduceLT, Int.reduceToNat, Int.reduceEq, Int.reduceLT, Int.reduceLE, reduceCtorEq, Nat.reduceMul, Nat.reduceLeDiff]
          rw [condK_ff]
          try simp only [wp_skip, RC]
          refine Wk.same ?_
          try simp only [RC]
          refine Wk.same ?_
          try simp only [RC]
          refine wp_region_i (by rfl) ?_
          simp only [go_sem, ↓evs_eq, Nat.reduceAdd, ↓reduceIte, Nat.reduceEqDiff, Nat.reduceBEq, Nat.reduceBNe, Nat.reduceLT, Int.reduceToNat, Int.reduceEq, Int.reduceLT, Int.reduceLE, reduceCtorEq, Nat.reduceMul, Nat.reduceLeDiff]
          refine Wk.le (EnvLe.cons (.refl _) (EnvLe.cons (.refl _) (EnvLe.cons (.refl _) (EnvLe.cons (.refl _) (EnvLe.cons (.refl _) (EnvLe.cons (.refl _) (EnvLe.cons (.refl _) (EnvLe.cons (.top _) (EnvLe.cons (.top _) (EnvLe.cons (.refl _) (EnvLe.cons (.refl _) (EnvLe.cons (.refl _) (EnvLe.cons (.top _) (EnvLe.cons (.top _) EnvLe.nil)))))))))))))) ?_
          exact hN51 (_, _, _, _, (IntKind.wrap .i64 (x19_37 + 1)), _, _) hq
        · simp only [RC, scopeQ, retQ, ↓reduceIte, Bool.false_eq_true]
          exact (hX _ hv).2
      · replace hq := (R.post_if hq).2 hc52
        refine condK_f (congrArg V.bool (decide_eq_false hc52)) ?_
        rw [wp_exit]
        try simp only [↓reduceIte, Nat.reduceEqDiff, reduceCtorEq, if_false, if_true, eq_self, Nat.succ_ne_self, RC]
        replace hq := hK50 _ hq
        try dsimp only at hq
        refine Wk.le (EnvLe.cons (.refl _) (EnvLe.cons (.refl _) (EnvLe.cons (.refl _) (EnvLe.cons (.refl _) (EnvLe.cons (.refl _) (EnvLe.cons (.refl _) (EnvLe.cons (.refl _) (EnvLe.cons (.refl _) (EnvLe.cons (.refl _) (EnvLe.cons (.top _) (EnvLe.cons (.top _) (EnvLe.cons (.top _) (EnvLe.cons (.top _) (EnvLe.cons (.refl _) EnvLe.nil)))))))))))))) ?_
        try simp only [RC]
        exact hN32 (_, _, _, _, _, _, _, _, _) hq
    · simp only [RC, scopeQ, retQ, ↓reduceIte, Bool.false_eq_true]
      exact (hX _ hv).2

def pool_Pool_Kind (x1 : List UInt8) : R (Int) :=
  (pool_Pool_get x1).bind fun r10 => R.ok 0
theorem pool_Pool_Kind_call {h : H} {x1 : List UInt8} {Q : Out → H → Prop} {KK : (Int) → Prop} {X : V → Prop} (hq : (pool_Pool_Kind x1).post KK X) (hK : ∀ r, KK r → Q (.ret (.int .i64 r)) h) (hX : ∀ v, X v → V.Cl 0 v ∧ Q (.panic v) h) : CA qprim 15 [.nilp, .str x1] h Q := by
  refine acalln hp Try.func15 rfl (by kernel_rfl) (n := 15) rfl (rs := [.tmp 4]) rfl [0, 1, 4, 5, 10] [] false (by simp) ?_
  unfold pool_Pool_Kind at hq
  simp only [initEnv, List.map_cons, List.map_nil, List.getD_cons_zero, List.getD_cons_succ, List.getD_nil, V.demote]
  rw [wp_seq]
  refine wp_region_i (by rfl) ?_
  simp only [go_sem, ↓evs_eq, Nat.reduceAdd, ↓reduceIte, Nat.reduceEqDiff, Nat.reduceBEq, Nat.reduceBNe, Nat.reduceLT, Int.reduceToNat, Int.reduceEq, Int.reduceLT, Int.reduceLE, reduceCtorEq, Nat.reduceMul, Nat.reduceLeDiff]
  rw [wp_seq]
  rw [wp_seq]
  refine wp_region_i (by rfl) ?_
  simp only [go_sem, ↓evs_eq, Nat.reduceAdd, ↓reduceIte, Nat.reduceEqDiff, Nat.reduceBEq, Nat.reduceBNe, Nat.reduceLT, Int.reduceToNat, Int.reduceEq, Int.reduceLT, Int.reduceLE, reduceCtorEq, Nat.reduceMul, Nat.reduceLeDiff]
  obtain ⟨K11, hK12, hq⟩ := R.post_cut hq
  refine pool_Pool_get_call (x1 := x1) hq (fun r10 hq => ?_) (fun v hv => ⟨(hX v hv).1, ?_⟩)
  · replace hq := hK12 _ hq
    simp only [go_sem, ↓evs_eq, Nat.reduceAdd, ↓reduceIte, Nat.reduceEqDiff, Nat.reduceBEq, Nat.reduceBNe, Nat.reduceLT, Int.reduceToNat, Int.reduceEq, Int.reduceLT, Int.reduceLE, reduceCtorEq, Nat.reduceMul, Nat.reduceLeDiff]
    rw [wp_seq]
    refine wp_region_i (by rfl) ?_
    simp only [go_sem, ↓evs_eq, Nat.reduceAdd, ↓reduceIte, Nat.reduceEqDiff, Nat.reduceBEq, Nat.reduceBNe, Nat.reduceLT, Int.reduceToNat, Int.reduceEq, Int.reduceLT, Int.reduceLE, reduceCtorEq, Nat.reduceMul, Nat.reduceLeDiff]
    rw [wp_cond]
    simp only [go_sem, ↓evs_eq, Nat.reduceAdd, ↓reduceIte, Nat.reduceEqDiff, Nat.reduceBEq, Nat.reduceBNe, Nat.reduceLT, Int.reduceToNat, Int.reduceEq, Int.reduceLT, Int.reduceLE, reduceCtorEq, Nat.reduceMul, Nat.reduceLeDiff]
    rw [condK_ff]
    try simp only [wp_skip, RC]
    refine Wk.same ?_
    try simp only [RC]
    rw [wp_seq]
    refine wp_region_i (by rfl) ?_
    simp only [go_sem, ↓evs_eq, Nat.reduceAdd, ↓reduceIte, Nat.reduceEqDiff, Nat.reduceBEq, Nat.reduceBNe, Nat.reduceLT, Int.reduceToNat, Int.reduceEq, Int.reduceLT, Int.reduceLE, reduceCtorEq, Nat.reduceMul, Nat.reduceLeDiff]
    rw [wp_ret]
    simp only [retQ, results, resultAll, resultOne, Nat.zero_add, scopeQ, go_sem, ↓evs_eq, Nat.reduceAdd, ↓reduceIte, Nat.reduceEqDiff, Nat.reduceBEq, Nat.reduceBNe, Nat.reduceLT, Int.reduceToNat, Int.reduceEq, Int.reduceLT, Int.reduceLE, reduceCtorEq, Nat.reduceMul, Nat.reduceLeDiff]
    refine ⟨_, (.refl _), ?_⟩
    exact hK _ hq
  · simp only [RC, scopeQ, retQ, ↓reduceIte, Bool.false_eq_true]
    exact (hX _ hv).2

def pool_Pool_Home (x1 : List UInt8) : R ((List UInt8)) :=
  (pool_Pool_get x1).bind fun r10 => R.ok []
theorem pool_Pool_Home_call {h : H} {x1 : List UInt8} {Q : Out → H → Prop} {KK : ((List UInt8)) → Prop} {X : V → Prop} (hq : (pool_Pool_Home x1).post KK X) (hK : ∀ r, KK r → Q (.ret (.str r)) h) (hX : ∀ v, X v → V.Cl 0 v ∧ Q (.panic v) h) : CA qprim 16 [.nilp, .str x1] h Q := by
  refine acalln hp Try.func16 rfl (by kernel_rfl) (n := 15) rfl (rs := [.tmp 4]) rfl [0, 1, 4, 5, 10] [] false (by simp) ?_
  unfold pool_Pool_Home at hq
  simp only [initEnv, List.map_cons, List.map_nil, List.getD_cons_zero, List.getD_cons_succ, List.getD_nil, V.demote]
  rw [wp_seq]
  refine wp_region_i (by rfl) ?_
  simp only [go_sem, ↓evs_eq, Nat.reduceAdd, ↓reduceIte, Nat.reduceEqDiff, Nat.reduceBEq, Nat.reduceBNe, Nat.reduceLT, Int.reduceToNat, Int.reduceEq, Int.reduceLT, Int.reduceLE, reduceCtorEq, Nat.reduceMul, Nat.reduceLeDiff]
  rw [wp_seq]
  rw [wp_seq]
  refine wp_region_i (by rfl) ?_
  simp only [go_sem, ↓evs_eq, Nat.reduceAdd, ↓reduceIte, Nat.reduceEqDiff, Nat.reduceBEq, Nat.reduceBNe, Nat.reduceLT, Int.reduceToNat, Int.reduceEq, Int.reduceLT, Int.reduceLE, reduceCtorEq, Nat.reduceMul, Nat.reduceLeDiff]
  obtain ⟨K11, hK12, hq⟩ := R.post_cut hq
  refine pool_Pool_get_call (x1 := x1) hq (fun r10 hq => ?_) (fun v hv => ⟨(hX v hv).1, ?_⟩)
  · replace hq := hK12 _ hq
    simp only [go_sem, ↓evs_eq, Nat.reduceAdd, ↓reduceIte, Nat.reduceEqDiff, Nat.reduceBEq, Nat.reduceBNe, Nat.reduceLT, Int.reduceToNat, Int.reduceEq, Int.reduceLT, Int.reduceLE, reduceCtorEq, Nat.reduceMul, Nat.reduceLeDiff]
    rw [wp_seq]
    refine wp_region_i (by rfl) ?_
    simp only [go_sem, ↓evs_eq, Nat.reduceAdd, ↓reduceIte, Nat.reduceEqDiff, Nat.reduceBEq, Nat.reduceBNe, Nat.reduceLT, Int.reduceToNat, Int.reduceEq, Int.reduceLT, Int.reduceLE, reduceCtorEq, Nat.reduceMul, Nat.reduceLeDiff]
    rw [wp_cond]
    simp only [go_sem, ↓evs_eq, Nat.reduceAdd, ↓reduceIte, Nat.reduceEqDiff, Nat.reduceBEq, Nat.reduceBNe, Nat.reduceLT, Int.reduceToNat, Int.reduceEq, Int.reduceLT, Int.reduceLE, reduceCtorEq, Nat.reduceMul, Nat.reduceLeDiff]
    rw [condK_ff]
    try simp only [wp_skip, RC]
    refine Wk.same ?_
    try simp only [RC]
    rw [wp_seq]
    refine wp_region_i (by rfl) ?_
    simp only [go_sem, ↓evs_eq, Nat.reduceAdd, ↓reduceIte, Nat.reduceEqDiff, Nat.reduceBEq, Nat.reduceBNe, Nat.reduceLT, Int.reduceToNat, Int.reduceEq, Int.reduceLT, Int.reduceLE, reduceCtorEq, Nat.reduceMul, Nat.reduceLeDiff]
    rw [wp_ret]
    simp only [retQ, results, resultAll, resultOne, Nat.zero_add, scopeQ, go_sem, ↓evs_eq, Nat.reduceAdd, ↓reduceIte, Nat.reduceEqDiff, Nat.reduceBEq, Nat.reduceBNe, Nat.reduceLT, Int.reduceToNat, Int.reduceEq, Int.reduceLT, Int.reduceLE, reduceCtorEq, Nat.reduceMul, Nat.reduceLeDiff]
    refine ⟨_, (.refl _), ?_⟩
    exact hK _ hq
  · simp only [RC, scopeQ, retQ, ↓reduceIte, Bool.false_eq_true]
    exact (hX _ hv).2

def pool_Pool_Names : R ((List (List UInt8))) :=
  R.ok []
theorem pool_Pool_Names_call {h : H} {Q : Out → H → Prop} {KK : ((List (List UInt8))) → Prop} {X : V → Prop} (hq : (pool_Pool_Names).post KK X) (hK : ∀ r, KK r → Q (.ret (.sl 1 (List.map V.str r))) h) (hX : ∀ v, X v → V.Cl 0 v ∧ Q (.panic v) h) : CA qprim 17 [.nilp] h Q := by
  refine acalln hp Try.func17 rfl (by kernel_rfl) (n := 23) rfl (rs := [.tmp 2]) rfl [0, 2, 3, 4, 6, 11, 13] [16] true (by simp) ?_
  unfold pool_Pool_Names at hq
  simp only [initEnv, List.map_cons, List.map_nil, List.getD_cons_zero, List.getD_cons_succ, List.getD_nil, V.demote]
  rw [wp_seq]
  refine wp_region_i (by rfl) ?_
  simp only [go_sem, ↓evs_eq, Nat.reduceAdd, ↓reduceIte, Nat.reduceEqDiff, Nat.reduceBEq, Nat.reduceBNe, Nat.reduceLT, Int.reduceToNat, Int.reduceEq, Int.reduceLT, Int.reduceLE, reduceCtorEq, Nat.reduceMul, Nat.reduceLeDiff]
  rw [wp_seq]
  refine wp_region_i (by rfl) ?_
  simp only [go_sem, ↓evs_eq, Nat.reduceAdd, ↓reduceIte, Nat.reduceEqDiff, Nat.reduceBEq, Nat.reduceBNe, Nat.reduceLT, Int.reduceToNat, Int.reduceEq, Int.reduceLT, Int.reduceLE, reduceCtorEq, Nat.reduceMul, Nat.reduceLeDiff]
  rw [wp_seq]
  rw [wp_seq]
  refine wp_region_i (by rfl) ?_
  simp only [go_sem, ↓evs_eq, Nat.reduceAdd, ↓reduceIte, Nat.reduceEqDiff, Nat.reduceBEq, Nat.reduceBNe, Nat.reduceLT, Int.reduceToNat, Int.reduceEq, Int.reduceLT, Int.reduceLE, reduceCtorEq, Nat.reduceMul, Nat.reduceLeDiff]
  rw [wp_cond]
  simp only [go_sem, ↓evs_eq, Nat.reduceAdd, ↓reduceIte, Nat.reduceEqDiff, Nat.reduceBEq, Nat.reduceBNe, Nat.reduceLT, Int.reduceToNat, Int.reduceEq, Int.reduceLT, Int.reduceLE, reduceCtorEq, Nat.reduceMul, Nat.reduceLeDiff]
  rw [condK_tt]
  rw [wp_seq]
  refine wp_region_i (by rfl) ?_
  simp only [go_sem, ↓evs_eq, Nat.reduceAdd, ↓reduceIte, Nat.reduceEqDiff, Nat.reduceBEq, Nat.reduceBNe, Nat.reduceLT, Int.reduceToNat, Int.reduceEq, Int.reduceLT, Int.reduceLE, reduceCtorEq, Nat.reduceMul, Nat.reduceLeDiff]
  rw [wp_ret]
  simp only [retQ, results, resultAll, resultOne, Nat.zero_add, scopeQ, go_sem, ↓evs_eq, Nat.reduceAdd, ↓reduceIte, Nat.reduceEqDiff, Nat.reduceBEq, Nat.reduceBNe, Nat.reduceLT, Int.reduceToNat, Int.reduceEq, Int.reduceLT, Int.reduceLE, reduceCtorEq, Nat.reduceMul, Nat.reduceLeDiff]
  refine ⟨_, (.nsl _ _), ?_⟩
  refine leave_ok0 rfl (.sl _ _ cl_nil) ?_
  exact hK _ hq

def pool_Pool_Exts (x1 : List UInt8) : R ((List (List UInt8))) :=
  R.ok []
theorem pool_Pool_Exts_call {h : H} {x1 : List UInt8} {Q : Out → H → Prop} {KK : ((List (List UInt8))) → Prop} {X : V → Prop} (hq : (pool_Pool_Exts x1).post KK X) (hK : ∀ r, KK r → Q (.ret (.sl 1 (List.map V.str r))) h) (hX : ∀ v, X v → V.Cl 0 v ∧ Q (.panic v) h) : CA qprim 18 [.nilp, .str x1] h Q := by
  refine acalln hp Try.func18 rfl (by kernel_rfl) (n := 15) rfl (rs := [.tmp 4]) rfl [0, 1, 4, 6] [] false (by simp) ?_
  unfold pool_Pool_Exts at hq
  simp only [initEnv, List.map_cons, List.map_nil, List.getD_cons_zero, List.getD_cons_succ, List.getD_nil, V.demote]
  rw [wp_seq]
  refine wp_region_i (by rfl) ?_
  simp only [go_sem, ↓evs_eq, Nat.reduceAdd, ↓reduceIte, Nat.reduceEqDiff, Nat.reduceBEq, Nat.reduceBNe, Nat.reduceLT, Int.reduceToNat, Int.reduceEq, Int.reduceLT, Int.reduceLE, reduceCtorEq, Nat.reduceMul, Nat.reduceLeDiff]
  rw [wp_seq]
  rw [wp_seq]
  refine wp_region_i (by rfl) ?_
  simp only [go_sem, ↓evs_eq, Nat.reduceAdd, ↓reduceIte, Nat.reduceEqDiff, Nat.reduceBEq, Nat.reduceBNe, Nat.reduceLT, Int.reduceToNat, Int.reduceEq, Int.reduceLT, Int.reduceLE, reduceCtorEq, Nat.reduceMul, Nat.reduceLeDiff]
  rw [wp_cond]
  simp only [go_sem, ↓evs_eq, Nat.reduceAdd, ↓reduceIte, Nat.reduceEqDiff, Nat.reduceBEq, Nat.reduceBNe, Nat.reduceLT, Int.reduceToNat, Int.reduceEq, Int.reduceLT, Int.reduceLE, reduceCtorEq, Nat.reduceMul, Nat.reduceLeDiff]
  rw [condK_tt]
  rw [wp_seq]
  refine wp_region_i (by rfl) ?_
  simp only [go_sem, ↓evs_eq, Nat.reduceAdd, ↓reduceIte, Nat.reduceEqDiff, Nat.reduceBEq, Nat.reduceBNe, Nat.reduceLT, Int.reduceToNat, Int.reduceEq, Int.reduceLT, Int.reduceLE, reduceCtorEq, Nat.reduceMul, Nat.reduceLeDiff]
  rw [wp_ret]
  simp only [retQ, results, resultAll, resultOne, Nat.zero_add, scopeQ, go_sem, ↓evs_eq, Nat.reduceAdd, ↓reduceIte, Nat.reduceEqDiff, Nat.reduceBEq, Nat.reduceBNe, Nat.reduceLT, Int.reduceToNat, Int.reduceEq, Int.reduceLT, Int.reduceLE, reduceCtorEq, Nat.reduceMul, Nat.reduceLeDiff]
  refine ⟨_, (.nsl _ _), ?_⟩
  exact hK _ hq

def glossarylaw14_PoolNone (x0 : List UInt8) (x1 : List UInt8) (x2 : List Int) : R (Bool) :=
  (awakeX).bind fun r11 => if r11 = true then ((if (300 : Int) < (List.length x0 : Int) then (R.ok true) else (R.ok (decide ((300 : Int) < (List.length x1 : Int))))).bind fun x27m17 => if x27m17 = true then (R.ok true) else ((pool_Pool_Message x0).bind fun r26 => (pool_Pool_Enum x0).bind fun r30 => (pool_Pool_Ext x0).bind fun r34 => (pool_Pool_File x0).bind fun r38 => (pool_Pool_Look x0 x1 ([[], x0]) x2).bind fun r42 => (if r26.2 = true then (R.ok false) else (if r30.2 = true then (R.ok false) else (if r34.2 = true then (R.ok false) else (if r38.2 = true then (R.ok false) else (if r42.2 = true then (R.ok false) else (if r42.1 = [] then ((pool_Pool_Kind x0).bind fun r74 => if r74 = 0 then ((pool_Pool_Home x0).bind fun r76 => if r76 = [] then ((pool_Pool_Names).bind fun r78 => if (List.length r78 : Int) = 0 then ((pool_Pool_Exts x0).bind fun r80 => R.ok (decide ((List.length r80 : Int) = 0))) else (R.ok false)) else (R.ok false)) else (R.ok false)) else (R.ok false))))))).bind fun x6m64 => R.ok x6m64)) else (R.ok false)
theorem glossarylaw14_PoolNone_call {h : H} {x0 : List UInt8} {x1 : List UInt8} {x2 : List Int} {Q : Out → H → Prop} {KK : (Bool) → Prop} {X : V → Prop} (hq : (glossarylaw14_PoolNone x0 x1 x2).post KK X) (hK : ∀ r, KK r → Q (.ret (.bool r)) h) (hX : ∀ v, X v → V.Cl 0 v ∧ Q (.panic v) h) : CA qprim 4 [.str x0, .str x1, .sl 1 (List.map (V.int .i64) x2)] h Q := by
  refine acalln hp Try.func4 rfl (by kernel_rfl) (n := 109) rfl (rs := [.tmp 6]) rfl [0, 1, 2, 6, 7, 9, 11, 13, 15, 16, 17, 19, 27] [] true (by simp) ?_
  unfold glossarylaw14_PoolNone at hq
  simp only [initEnv, List.map_cons, List.map_nil, List.getD_cons_zero, List.getD_cons_succ, List.getD_nil, V.demote]
  rw [wp_seq]
  refine wp_region_i (by rfl) ?_
  simp only [go_sem, ↓evs_eq, Nat.reduceAdd, ↓reduceIte, Nat.reduceEqDiff, Nat.reduceBEq, Nat.reduceBNe, Nat.reduceLT, Int.reduceToNat, Int.reduceEq, Int.reduceLT, Int.reduceLE, reduceCtorEq, Nat.reduceMul, Nat.reduceLeDiff]
  rw [wp_seq]
  rw [wp_seq]
  refine wp_region_i (by rfl) ?_
  simp only [go_sem, ↓evs_eq, Nat.reduceAdd, ↓reduceIte, Nat.reduceEqDiff, Nat.reduceBEq, Nat.reduceBNe, Nat.reduceLT, Int.reduceToNat, Int.reduceEq, Int.reduceLT, Int.reduceLE, reduceCtorEq, Nat.reduceMul, Nat.reduceLeDiff]
  obtain ⟨K99, hK100, hq⟩ := R.post_cut hq
  refine awakeX_call hq (fun r11 hq => ?_) (fun v hv => ⟨(hX v hv).1, ?_⟩)
  · replace hq := hK100 _ hq
    simp only [go_sem, ↓evs_eq, Nat.reduceAdd, ↓reduceIte, Nat.reduceEqDiff, Nat.reduceBEq, Nat.reduceBNe, Nat.reduceLT, Int.reduceToNat, Int.reduceEq, Int.reduceLT, Int.reduceLE, reduceCtorEq, Nat.reduceMul, Nat.reduceLeDiff]
    rw [wp_cond]
    simp only [go_sem, ↓evs_eq, Nat.reduceAdd, ↓reduceIte, Nat.reduceEqDiff, Nat.reduceBEq, Nat.reduceBNe, Nat.reduceLT, Int.reduceToNat, Int.reduceEq, Int.reduceLT, Int.reduceLE, reduceCtorEq, Nat.reduceMul, Nat.reduceLeDiff]
    by_cases hc12 : r11 = true
    · replace hq := (R.post_if hq).1 hc12
      refine condK_f (congrArg (fun b => V.bool (!b)) (hc12)) ?_
      try simp only [wp_skip, RC]
      refine Wk.same ?_
      try simp only [RC]
      rw [wp_seq]
      obtain ⟨K18, hK19, hq⟩ := R.post_cut hq
      refine seq_gen (acall_mono hp) (σ := Bool) (fun s => [(0, .str x0), (1, .str x1), (2, .sl 1 (List.map (V.int .i64) x2)), (6, .bool false), (7, .top), (9, .top), (11, .top), (13, .top), (15, .top), (16, .top), (17, .top), (19, .bool (!r11)), (27, .bool s)]) (fun s => h) (fun s => K18 s) (fun x27m17 hq => ?_) (fun N hN20 => ?_)
      · replace hq := hK19 _ hq
        try dsimp only at hq ⊢
        rw [wp_cond]
        simp only [go_sem, ↓evs_eq, Nat.reduceAdd, ↓reduceIte, Nat.reduceEqDiff, Nat.reduceBEq, Nat.reduceBNe, Nat.reduceLT, Int.reduceToNat, Int.reduceEq, Int.reduceLT, Int.reduceLE, reduceCtorEq, Nat.reduceMul, Nat.reduceLeDiff]
        by_cases hc22 : x27m17 = true
        · replace hq := (R.post_if hq).1 hc22
          refine condK_t (congrArg V.bool (hc22)) ?_
          rw [wp_seq]
          refine wp_region_i (by rfl) ?_
          simp only [go_sem, ↓evs_eq, Nat.reduceAdd, ↓reduceIte, Nat.reduceEqDiff, Nat.reduceBEq, Nat.reduceBNe, Nat.reduceLT, Int.reduceToNat, Int.reduceEq, Int.reduceLT, Int.reduceLE, reduceCtorEq, Nat.reduceMul, Nat.reduceLeDiff]
          rw [wp_ret]
          simp only [retQ, results, resultAll, resultOne, Nat.zero_add, scopeQ, go_sem, ↓evs_eq, Nat.reduceAdd, ↓reduceIte, Nat.reduceEqDiff, Nat.reduceBEq, Nat.reduceBNe, Nat.reduceLT, Int.reduceToNat, Int.reduceEq, Int.reduceLT, Int.reduceLE, reduceCtorEq, Nat.reduceMul, Nat.reduceLeDiff]
          refine ⟨_, (.refl _), ?_⟩
          refine leave_ok0 rfl (.bool _) ?_
          exact hK _ hq
        · replace hq := (R.post_if hq).2 hc22
          replace hc22 := eq_false_of_ne_true hc22
          refine condK_f (congrArg V.bool (hc22)) ?_
          try simp only [wp_skip, RC]
          refine Wk.same ?_
          try simp only [RC]
          rw [wp_seq]
          refine wp_region_i (by rfl) ?_
          simp only [go_sem, ↓evs_eq, Nat.reduceAdd, ↓reduceIte, Nat.reduceEqDiff, Nat.reduceBEq, Nat.reduceBNe, Nat.reduceLT, Int.reduceToNat, Int.reduceEq, Int.reduceLT, Int.reduceLE, reduceCtorEq, Nat.reduceMul, Nat.reduceLeDiff]
          rw [wp_seq]
          refine wp_region_i (by rfl) ?_
          simp only [go_sem, ↓evs_eq, Nat.reduceAdd, ↓reduceIte, Nat.reduceEqDiff, Nat.reduceBEq, Nat.reduceBNe, Nat.reduceLT, Int.reduceToNat, Int.reduceEq, Int.reduceLT, Int.reduceLE, reduceCtorEq, Nat.reduceMul, Nat.reduceLeDiff]
          obtain ⟨K97, hK98, hq⟩ := R.post_cut hq
          refine pool_Pool_Message_call (x1 := x0) hq (fun r26 hq => ?_) (fun v hv => ⟨(hX v hv).1, ?_⟩)
          · replace hq := hK98 _ hq
            simp only [go_sem, ↓evs_eq, Nat.reduceAdd, ↓reduceIte, Nat.reduceEqDiff, Nat.reduceBEq, Nat.reduceBNe, Nat.reduceLT, Int.reduceToNat, Int.reduceEq, Int.reduceLT, Int.reduceLE, reduceCtorEq, Nat.reduceMul, Nat.reduceLeDiff]
            rw [wp_seq]
            refine wp_region_i (by rfl) ?_
            simp only [go_sem, ↓evs_eq, Nat.reduceAdd, ↓reduceIte, Nat.reduceEqDiff, Nat.reduceBEq, Nat.reduceBNe, Nat.reduceLT, Int.reduceToNat, Int.reduceEq, Int.reduceLT, Int.reduceLE, reduceCtorEq, Nat.reduceMul, Nat.reduceLeDiff]
            obtain ⟨K95, hK96, hq⟩ := R.post_cut hq
            refine pool_Pool_Enum_call (x1 := x0) hq (fun r30 hq => ?_) (fun v hv => ⟨(hX v hv).1, ?_⟩)
            · replace hq := hK96 _ hq
              simp only [go_sem, ↓evs_eq, Nat.reduceAdd, ↓reduceIte, Nat.reduceEqDiff, Nat.reduceBEq, Nat.reduceBNe, Nat.reduceLT, Int.reduceToNat, Int.reduceEq, Int.reduceLT, Int.reduceLE, reduceCtorEq, Nat.reduceMul, Nat.reduceLeDiff]
              rw [wp_seq]
              refine wp_region_i (by rfl) ?_
              simp only [go_sem, ↓evs_eq, Nat.reduceAdd, ↓reduceIte, Nat.reduceEqDiff, Nat.reduceBEq, Nat.reduceBNe, Nat.reduceLT, Int.reduceToNat, Int.reduceEq, Int.reduceLT, Int.reduceLE, reduceCtorEq, Nat.reduceMul, Nat.reduceLeDiff]
              obtain ⟨K93, hK94, hq⟩ := R.post_cut hq
              refine pool_Pool_Ext_call (x1 := x0) hq (fun r34 hq => ?_) (fun v hv => ⟨(hX v hv).1, ?_⟩)
              · replace hq := hK94 _ hq
                simp only [go_sem, ↓evs_eq, Nat.reduceAdd, ↓reduceIte, Nat.reduceEqDiff, Nat.reduceBEq, Nat.reduceBNe, Nat.reduceLT, Int.reduceToNat, Int.reduceEq, Int.reduceLT, Int.reduceLE, reduceCtorEq, Nat.reduceMul, Nat.reduceLeDiff]
                rw [wp_seq]
                refine wp_region_i (by rfl) ?_
                simp only [go_sem, ↓evs_eq, Nat.reduceAdd, ↓reduceIte, Nat.reduceEqDiff, Nat.reduceBEq, Nat.reduceBNe, Nat.reduceLT, Int.reduceToNat, Int.reduceEq, Int.reduceLT, Int.reduceLE, reduceCtorEq, Nat.reduceMul, Nat.reduceLeDiff]
                obtain ⟨K91, hK92, hq⟩ := R.post_cut hq
                refine pool_Pool_File_call (x1 := x0) hq (fun r38 hq => ?_) (fun v hv => ⟨(hX v hv).1, ?_⟩)
                · replace hq := hK92 _ hq
                  simp only [go_sem, ↓evs_eq, Nat.reduceAdd, ↓reduceIte, Nat.reduceEqDiff, Nat.reduceBEq, Nat.reduceBNe, Nat.reduceLT, Int.reduceToNat, Int.reduceEq, Int.reduceLT, Int.reduceLE, reduceCtorEq, Nat.reduceMul, Nat.reduceLeDiff]
                  rw [wp_seq]
                  refine wp_region_i (by rfl) ?_
                  simp only [go_sem, ↓evs_eq, Nat.reduceAdd, ↓reduceIte, Nat.reduceEqDiff, Nat.reduceBEq, Nat.reduceBNe, Nat.reduceLT, Int.reduceToNat, Int.reduceEq, Int.reduceLT, Int.reduceLE, reduceCtorEq, Nat.reduceMul, Nat.reduceLeDiff]
                  obtain ⟨K89, hK90, hq⟩ := R.post_cut hq
                  refine pool_Pool_Look_call (x1 := x0) (x2 := x1) (x3 := [[], x0]) (x4 := x2) hq (fun r42 hq => ?_) (fun v hv => ⟨(hX v hv).1, ?_⟩)
                  · replace hq := hK90 _ hq
                    simp only [go_sem, ↓evs_eq, Nat.reduceAdd, ↓reduceIte, Nat.reduceEqDiff, Nat.reduceBEq, Nat.reduceBNe, Nat.reduceLT, Int.reduceToNat, Int.reduceEq, Int.reduceLT, Int.reduceLE, reduceCtorEq, Nat.reduceMul, Nat.reduceLeDiff]
                    obtain ⟨K65, hK66, hq⟩ := R.post_cut hq
                    refine seq_gen (acall_mono hp) (σ := Bool × V × V × V × V × V) (fun s => [(0, .str x0), (1, .str x1), (2, .sl 1 (List.map (V.int .i64) x2)), (6, .bool s.1), (7, .nilp), (9, s.2.1), (11, s.2.2.1), (13, s.2.2.2.1), (15, s.2.2.2.2.1), (16, .str r42.1), (17, s.2.2.2.2.2), (19, .bool (!r11)), (27, .bool x27m17)]) (fun s => h ++ [.cells 30 [.str r26.1.Name, .sl 13 (List.map S_api_Field.enc r26.1.Fields), .sl 11 (List.map S_api_Message.enc r26.1.Nested), .sl 4 (List.map S_api_Enum.enc r26.1.Enums), .sl 2 (List.map S_api_Range.enc r26.1.Ranges), .sl 13 (List.map S_api_Field.enc r26.1.Extends), .sl 3 (List.map S_api_Oneof.enc r26.1.Oneofs), .sl 2 (List.map S_api_Range.enc r26.1.Reserved), .sl 1 (List.map V.str r26.1.Words), .sl 1 (List.map byteV r26.1.Options), .sl 1 (List.map byteV r26.1.Unknown)], .cells 44 [.str r30.1.Name, .sl 4 (List.map S_api_Value.enc r30.1.Values), .sl 1 (List.map byteV r30.1.Options), .sl 1 (List.map byteV r30.1.Unknown)], .cells 48 [.str r34.1.Name, .int .i64 r34.1.Number, .int .i64 r34.1.Label, .int .i64 r34.1.Type_, .str r34.1.TypeName, .str r34.1.Extendee, .str r34.1.Default, .bool r34.1.Has, .int .i64 r34.1.Oneof, .str r34.1.Json, .bool r34.1.Optional, .sl 1 (List.map byteV r34.1.Options), .sl 1 (List.map byteV r34.1.Unknown)], .cells 36 [.str r38.1.Name, .str r38.1.Package, .sl 1 (List.map V.str r38.1.Deps), .sl 1 (List.map (V.int .i64) r38.1.Public), .sl 11 (List.map S_api_Message.enc r38.1.Messages), .sl 4 (List.map S_api_Enum.enc r38.1.Enums), .sl 4 (List.map S_api_Service.enc r38.1.Services), .sl 13 (List.map S_api_Field.enc r38.1.Extends), .str r38.1.Syntax, .sl 1 (List.map byteV r38.1.Options), .sl 1 (List.map byteV r38.1.Unknown)]]) (fun s => K65 s.1) (fun s hq => ?_) (fun N hN67 => ?_)
                    · obtain ⟨x6m64, y9m64, y11m64, y13m64, y15m64, y17m64⟩ := s
                      replace hq := hK66 _ hq
                      try dsimp only at hq ⊢
                      rw [wp_ret]
                      simp only [retQ, results, resultAll, resultOne, Nat.zero_add, scopeQ, go_sem, ↓evs_eq, Nat.reduceAdd, ↓reduceIte, Nat.reduceEqDiff, Nat.reduceBEq, Nat.reduceBNe, Nat.reduceLT, Int.reduceToNat, Int.reduceEq, Int.reduceLT, Int.reduceLE, reduceCtorEq, Nat.reduceMul, Nat.reduceLeDiff]
                      refine ⟨_, (.refl _), ?_⟩
                      refine leave_ok rfl (.bool _) ?_
                      exact hK _ hq
                    · refine wp_region_i (by rfl) ?_
                      simp only [go_sem, ↓evs_eq, Nat.reduceAdd, ↓reduceIte, Nat.reduceEqDiff, Nat.reduceBEq, Nat.reduceBNe, Nat.reduceLT, Int.reduceToNat, Int.reduceEq, Int.reduceLT, Int.reduceLE, reduceCtorEq, Nat.reduceMul, Nat.reduceLeDiff]
                      by_cases hc68 : r26.2 = true
                      · replace hq := (R.post_if hq).1 hc68
                        simp only [hc68, go_sem, ↓evs_eq, Nat.reduceAdd, ↓reduceIte, Nat.reduceEqDiff, Nat.reduceBEq, Nat.reduceBNe, Nat.reduceLT, Int.reduceToNat, Int.reduceEq, Int.reduceLT, Int.reduceLE, reduceCtorEq, Nat.reduceMul, Nat.reduceLeDiff]
                        exact hN67 (false, _, _, _, _, _) hq
                      · replace hq := (R.post_if hq).2 hc68
                        replace hc68 := eq_false_of_ne_true hc68
                        simp only [hc68, go_sem, ↓evs_eq, Nat.reduceAdd, ↓reduceIte, Nat.reduceEqDiff, Nat.reduceBEq, Nat.reduceBNe, Nat.reduceLT, Int.reduceToNat, Int.reduceEq, Int.reduceLT, Int.reduceLE, reduceCtorEq, Nat.reduceMul, Nat.reduceLeDiff]
                        by_cases hc69 : r30.2 = true
                        · replace hq := (R.post_if hq).1 hc69
                          simp only [hc69, go_sem, ↓evs_eq, Nat.reduceAdd, ↓reduceIte, Nat.reduceEqDiff, Nat.reduceBEq, Nat.reduceBNe, Nat.reduceLT, Int.reduceToNat, Int.reduceEq, Int.reduceLT, Int.reduceLE, reduceCtorEq, Nat.reduceMul, Nat.reduceLeDiff]
                          exact hN67 (false, _, _, _, _, _) hq
                        · replace hq := (R.post_if hq).2 hc69
                          replace hc69 := eq_false_of_ne_true hc69
                          simp only [hc69, go_sem, ↓evs_eq, Nat.reduceAdd, ↓reduceIte, Nat.reduceEqDiff, Nat.reduceBEq, Nat.reduceBNe, Nat.reduceLT, Int.reduceToNat, Int.reduceEq, Int.reduceLT, Int.reduceLE, reduceCtorEq, Nat.reduceMul, Nat.reduceLeDiff]
                          by_cases hc70 : r34.2 = true
                          · replace hq := (R.post_if hq).1 hc70
                            simp only [hc70, go_sem, ↓evs_eq, Nat.reduceAdd, ↓reduceIte, Nat.reduceEqDiff, Nat.reduceBEq, Nat.reduceBNe, Nat.reduceLT, Int.reduceToNat, Int.reduceEq, Int.reduceLT, Int.reduceLE, reduceCtorEq, Nat.reduceMul, Nat.reduceLeDiff]
                            exact hN67 (false, _, _, _, _, _) hq
                          · replace hq := (R.post_if hq).2 hc70
                            replace hc70 := eq_false_of_ne_true hc70
                            simp only [hc70, go_sem, ↓evs_eq, Nat.reduceAdd, ↓reduceIte, Nat.reduceEqDiff, Nat.reduceBEq, Nat.reduceBNe, Nat.reduceLT, Int.reduceToNat, Int.reduceEq, Int.reduceLT, Int.reduceLE, reduceCtorEq, Nat.reduceMul, Nat.reduceLeDiff]
                            by_cases hc71 : r38.2 = true
                            · replace hq := (R.post_if hq).1 hc71
                              simp only [hc71, go_sem, ↓evs_eq, Nat.reduceAdd, ↓reduceIte, Nat.reduceEqDiff, Nat.reduceBEq, Nat.reduceBNe, Nat.reduceLT, Int.reduceToNat, Int.reduceEq, Int.reduceLT, Int.reduceLE, reduceCtorEq, Nat.reduceMul, Nat.reduceLeDiff]
                              exact hN67 (false, _, _, _, _, _) hq
                            · replace hq := (R.post_if hq).2 hc71
                              replace hc71 := eq_false_of_ne_true hc71
                              simp only [hc71, go_sem, ↓evs_eq, Nat.reduceAdd, ↓reduceIte, Nat.reduceEqDiff, Nat.reduceBEq, Nat.reduceBNe, Nat.reduceLT, Int.reduceToNat, Int.reduceEq, Int.reduceLT, Int.reduceLE, reduceCtorEq, Nat.reduceMul, Nat.reduceLeDiff]
                              by_cases hc72 : r42.2 = true
                              · replace hq := (R.post_if hq).1 hc72
                                simp only [hc72, go_sem, ↓evs_eq, Nat.reduceAdd, ↓reduceIte, Nat.reduceEqDiff, Nat.reduceBEq, Nat.reduceBNe, Nat.reduceLT, Int.reduceToNat, Int.reduceEq, Int.reduceLT, Int.reduceLE, reduceCtorEq, Nat.reduceMul, Nat.reduceLeDiff]
                                exact hN67 (false, _, _, _, _, _) hq
                              · replace hq := (R.post_if hq).2 hc72
                                replace hc72 := eq_false_of_ne_true hc72
                                simp only [hc72, go_sem, ↓evs_eq, Nat.reduceAdd, ↓reduceIte, Nat.reduceEqDiff, Nat.reduceBEq, Nat.reduceBNe, Nat.reduceLT, Int.reduceToNat, Int.reduceEq, Int.reduceLT, Int.reduceLE, reduceCtorEq, Nat.reduceMul, Nat.reduceLeDiff]
                                by_cases hc73 : r42.1 = []
                                · replace hq := (R.post_if hq).1 hc73
                                  simp only [decide_eq_true hc73, go_sem, ↓evs_eq, Nat.reduceAdd, ↓reduceIte, Nat.reduceEqDiff, Nat.reduceBEq, Nat.reduceBNe, Nat.reduceLT, Int.reduceToNat, Int.reduceEq, Int.reduceLT, Int.reduceLE, reduceCtorEq, Nat.reduceMul, Nat.reduceLeDiff]
                                  obtain ⟨K87, hK88, hq⟩ := R.post_cut hq
                                  refine pool_Pool_Kind_call (x1 := x0) hq (fun r74 hq => ?_) (fun v hv => ⟨(hX v hv).1, ?_⟩)
                                  · replace hq := hK88 _ hq
                                    simp only [go_sem, ↓evs_eq, Nat.reduceAdd, ↓reduceIte, Nat.reduceEqDiff, Nat.reduceBEq, Nat.reduceBNe, Nat.reduceLT, Int.reduceToNat, Int.reduceEq, Int.reduceLT, Int.reduceLE, reduceCtorEq, Nat.reduceMul, Nat.reduceLeDiff]
                                    by_cases hc75 : r74 = 0
                                    · replace hq := (R.post_if hq).1 hc75
                                      simp only [decide_eq_true hc75, go_sem, ↓evs_eq, Nat.reduceAdd, ↓reduceIte, Nat.reduceEqDiff, Nat.reduceBEq, Nat.reduceBNe, Nat.reduceLT, Int.reduceToNat, Int.reduceEq, Int.reduceLT, Int.reduceLE, reduceCtorEq, Nat.reduceMul, Nat.reduceLeDiff]
                                      obtain ⟨K85, hK86, hq⟩ := R.post_cut hq
                                      refine pool_Pool_Home_call (x1 := x0) hq (fun r76 hq => ?_) (fun v hv => ⟨(hX v hv).1, ?_⟩)
                                      · replace hq := hK86 _ hq
                                        simp only [go_sem, ↓evs_eq, Nat.reduceAdd, ↓reduceIte, Nat.reduceEqDiff, Nat.reduceBEq, Nat.reduceBNe, Nat.reduceLT, Int.reduceToNat, Int.reduceEq, Int.reduceLT, Int.reduceLE, reduceCtorEq, Nat.reduceMul, Nat.reduceLeDiff]
                                        by_cases hc77 : r76 = []
                                        · replace hq := (R.post_if hq).1 hc77
                                          simp only [decide_eq_true hc77, go_sem, ↓evs_eq, Nat.reduceAdd, ↓reduceIte, Nat.reduceEqDiff, Nat.reduceBEq, Nat.reduceBNe, Nat.reduceLT, Int.reduceToNat, Int.reduceEq, Int.reduceLT, Int.reduceLE, reduceCtorEq, Nat.reduceMul, Nat.reduceLeDiff]
                                          obtain ⟨K83, hK84, hq⟩ := R.post_cut hq
                                          refine pool_Pool_Names_call hq (fun r78 hq => ?_) (fun v hv => ⟨(hX v hv).1, ?_⟩)
                                          · replace hq := hK84 _ hq
                                            simp only [go_sem, ↓evs_eq, Nat.reduceAdd, ↓reduceIte, Nat.reduceEqDiff, Nat.reduceBEq, Nat.reduceBNe, Nat.reduceLT, Int.reduceToNat, Int.reduceEq, Int.reduceLT, Int.reduceLE, reduceCtorEq, Nat.reduceMul, Nat.reduceLeDiff]
                                            by_cases hc79 : (List.length r78 : Int) = 0
                                            · replace hq := (R.post_if hq).1 hc79
                                              simp only [decide_eq_true hc79, go_sem, ↓evs_eq, Nat.reduceAdd, ↓reduceIte, Nat.reduceEqDiff, Nat.reduceBEq, Nat.reduceBNe, Nat.reduceLT, Int.reduceToNat, Int.reduceEq, Int.reduceLT, Int.reduceLE, reduceCtorEq, Nat.reduceMul, Nat.reduceLeDiff]
                                              obtain ⟨K81, hK82, hq⟩ := R.post_cut hq
                                              refine pool_Pool_Exts_call (x1 := x0) hq (fun r80 hq => ?_) (fun v hv => ⟨(hX v hv).1, ?_⟩)
                                              · replace hq := hK82 _ hq
                                                simp only [go_sem, ↓evs_eq, Nat.reduceAdd, ↓reduceIte, Nat.reduceEqDiff, Nat.reduceBEq, Nat.reduceBNe, Nat.reduceLT, Int.reduceToNat, Int.reduceEq, Int.reduceLT, Int.reduceLE, reduceCtorEq, Nat.reduceMul, Nat.reduceLeDiff]
                                                exact hN67 ((decide ((List.length r80 : Int) = 0)), _, _, _, _, _) hq
                                              · simp only [RC, scopeQ, retQ, ↓reduceIte, Bool.false_eq_true]
                                                exact leaveP_ok ((hX _ hv).1.mono (Nat.zero_le _)) (hX _ hv).2
                                            · replace hq := (R.post_if hq).2 hc79
                                              simp only [decide_eq_false hc79, go_sem, ↓evs_eq, Nat.reduceAdd, ↓reduceIte, Nat.reduceEqDiff, Nat.reduceBEq, Nat.reduceBNe, Nat.reduceLT, Int.reduceToNat, Int.reduceEq, Int.reduceLT, Int.reduceLE, reduceCtorEq, Nat.reduceMul, Nat.reduceLeDiff]
                                              exact hN67 (false, _, _, _, _, _) hq
                                          · simp only [RC, scopeQ, retQ, ↓reduceIte, Bool.false_eq_true]
                                            exact leaveP_ok ((hX _ hv).1.mono (Nat.zero_le _)) (hX _ hv).2
                                        · replace hq := (R.post_if hq).2 hc77
                                          simp only [decide_eq_false hc77, go_sem, ↓evs_eq, Nat.reduceAdd, ↓reduceIte, Nat.reduceEqDiff, Nat.reduceBEq, Nat.reduceBNe, Nat.reduceLT, Int.reduceToNat, Int.reduceEq, Int.reduceLT, Int.reduceLE, reduceCtorEq, Nat.reduceMul, Nat.reduceLeDiff]
                                          exact hN67 (false, _, _, _, _, _) hq
                                      · simp only [RC, scopeQ, retQ, ↓reduceIte, Bool.false_eq_true]
                                        exact leaveP_ok ((hX _ hv).1.mono (Nat.zero_le _)) (hX _ hv).2
                                    · replace hq := (R.post_if hq).2 hc75
                                      simp only [decide_eq_false hc75, go_sem, ↓evs_eq, Nat.reduceAdd, ↓reduceIte, Nat.reduceEqDiff, Nat.reduceBEq, Nat.reduceBNe, Nat.reduceLT, Int.reduceToNat, Int.reduceEq, Int.reduceLT, Int.reduceLE, reduceCtorEq, Nat.reduceMul, Nat.reduceLeDiff]
                                      exact hN67 (false, _, _, _, _, _) hq
                                  · simp only [RC, scopeQ, retQ, ↓reduceIte, Bool.false_eq_true]
                                    exact leaveP_ok ((hX _ hv).1.mono (Nat.zero_le _)) (hX _ hv).2
                                · replace hq := (R.post_if hq).2 hc73
                                  simp only [decide_eq_false hc73, go_sem, ↓evs_eq, Nat.reduceAdd, ↓reduceIte, Nat.reduceEqDiff, Nat.reduceBEq, Nat.reduceBNe, Nat.reduceLT, Int.reduceToNat, Int.reduceEq, Int.reduceLT, Int.reduceLE, reduceCtorEq, Nat.reduceMul, Nat.reduceLeDiff]
                                  exact hN67 (false, _, _, _, _, _) hq
                  · simp only [RC, scopeQ, retQ, ↓reduceIte, Bool.false_eq_true]
                    exact leaveP_ok ((hX _ hv).1.mono (Nat.zero_le _)) (hX _ hv).2
                · simp only [RC, scopeQ, retQ, ↓reduceIte, Bool.false_eq_true]
                  exact leaveP_ok ((hX _ hv).1.mono (Nat.zero_le _)) (hX _ hv).2
              · simp only [RC, scopeQ, retQ, ↓reduceIte, Bool.false_eq_true]
                exact leaveP_ok ((hX _ hv).1.mono (Nat.zero_le _)) (hX _ hv).2
            · simp only [RC, scopeQ, retQ, ↓reduceIte, Bool.false_eq_true]
              exact leaveP_ok ((hX _ hv).1.mono (Nat.zero_le _)) (hX _ hv).2
          · simp only [RC, scopeQ, retQ, ↓reduceIte, Bool.false_eq_true]
            exact leaveP_ok0 ((hX _ hv).1.mono (Nat.zero_le _)) (hX _ hv).2
      · refine wp_region_i (by rfl) ?_
        simp only [go_sem, ↓evs_eq, Nat.reduceAdd, ↓reduceIte, Nat.reduceEqDiff, Nat.reduceBEq, Nat.reduceBNe, Nat.reduceLT, Int.reduceToNat, Int.reduceEq, Int.reduceLT, Int.reduceLE, reduceCtorEq, Nat.reduceMul, Nat.reduceLeDiff]
        by_cases hc21 : (300 : Int) < (List.length x0 : Int)
        · replace hq := (R.post_if hq).1 hc21
          simp only [decide_eq_true hc21, go_sem, ↓evs_eq, Nat.reduceAdd, ↓reduceIte, Nat.reduceEqDiff, Nat.reduceBEq, Nat.reduceBNe, Nat.reduceLT, Int.reduceToNat, Int.reduceEq, Int.reduceLT, Int.reduceLE, reduceCtorEq, Nat.reduceMul, Nat.reduceLeDiff]
          exact hN20 true hq
        · replace hq := (R.post_if hq).2 hc21
          simp only [decide_eq_false hc21, go_sem, ↓evs_eq, Nat.reduceAdd, ↓reduceIte, Nat.reduceEqDiff, Nat.reduceBEq, Nat.reduceBNe, Nat.reduceLT, Int.reduceToNat, Int.reduceEq, Int.reduceLT, Int.reduceLE, reduceCtorEq, Nat.reduceMul, Nat.reduceLeDiff]
          exact hN20 (decide ((300 : Int) < (List.length x1 : Int))) hq
    · replace hq := (R.post_if hq).2 hc12
      replace hc12 := eq_false_of_ne_true hc12
      refine condK_t (congrArg (fun b => V.bool (!b)) (hc12)) ?_
      rw [wp_seq]
      refine wp_region_i (by rfl) ?_
      simp only [go_sem, ↓evs_eq, Nat.reduceAdd, ↓reduceIte, Nat.reduceEqDiff, Nat.reduceBEq, Nat.reduceBNe, Nat.reduceLT, Int.reduceToNat, Int.reduceEq, Int.reduceLT, Int.reduceLE, reduceCtorEq, Nat.reduceMul, Nat.reduceLeDiff]
      rw [wp_ret]
      simp only [retQ, results, resultAll, resultOne, Nat.zero_add, scopeQ, go_sem, ↓evs_eq, Nat.reduceAdd, ↓reduceIte, Nat.reduceEqDiff, Nat.reduceBEq, Nat.reduceBNe, Nat.reduceLT, Int.reduceToNat, Int.reduceEq, Int.reduceLT, Int.reduceLE, reduceCtorEq, Nat.reduceMul, Nat.reduceLeDiff]
      refine ⟨_, (.refl _), ?_⟩
      refine leave_ok0 rfl (.bool _) ?_
      exact hK _ hq
  · simp only [RC, scopeQ, retQ, ↓reduceIte, Bool.false_eq_true]
    exact leaveP_ok0 ((hX _ hv).1.mono (Nat.zero_le _)) (hX _ hv).2
end Go.Proofs.Ytpbnnbjkjaajnaa.Pv
