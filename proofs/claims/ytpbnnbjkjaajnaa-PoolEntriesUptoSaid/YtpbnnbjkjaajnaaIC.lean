/- The iterator of wire's fields: its law. -/
import Derived.Test.YtpbnnbjkjaajnaaFD
import Derived.Test.YtpbnnbjkjaajnaaIB
set_option linter.unusedVariables false
set_option linter.unusedSimpArgs false
set_option maxHeartbeats 4000000
set_option maxRecDepth 10000
namespace Go.Proofs.Ytpbnnbjkjaajnaa.Pv
open Go Go.Proofs
attribute [local go_sem] RC RL RM loadN V.slz V.slz1 lnB V.left V.lenOf slice3 sliceNil Option.getD_none Option.getD_some sliceOp cut upon_each nextM entryOp buildOk lookup lookV update elemOf Option.isSome_map unOp wanted aop tkB rwB neD Env.get Env.put Env.keep putD dstOk ev constV nilSlice V.demote V.toOwn V.asOwn V.cells tyE R1.res binOp isShift binOpT isC intOp strOp shiftOp byteV index indexAddr slice bounds hiB loB withB maxV minV evs pickV lenV builtin initEnv convert K.isU8 strOf load store fieldOf append appT fltOp cpxV realV imagV toInt rangeOp nextOp room fill placeOf splice repl chunks Ty.val Ty.agg V.plain H.row H.ety AObj.row putAll demEnv updH
instance sortOK : SortOK Try.prog := ⟨fun f hf => (by cases hf), Nat.le_of_ble_eq_true (by kernel_rfl)⟩
theorem take_sound {x : List UInt8} {r : T.S_api_Raw × Int × Int} (hx : T.wire_Take x = .ok r) {h : H} {Q : Out → H → Prop} (hq : Q (.ret (.tup [.agg [.int .i64 r.1.Num, .int .i64 r.1.Kind, .int .u64 r.1.N, .sl 1 (List.map byteV r.1.B)], .int .i64 r.2.1, .int .i64 r.2.2])) h) : Sound Try.prog 78 [.sl 1 (List.map byteV x)] h Q :=
  acall_sound ty_tab mixed (fun f args h Q hf => hf.elim) (T.wire_Take_call (KK := fun a => a = r) (X := fun _ => False) (by rw [hx]; exact rfl) (fun a ha => by subst ha; exact hq) (fun v hv => hv.elim))
theorem byte_len (b : List UInt8) : (List.map byteV b).length = b.length := by simp
/-- What the iterator leans on. -/
def Ob (jb je ce : Nat) (b : List UInt8) (h : H) : Prop := h[jb]? = some (.cells 28 [.sl 1 (List.map byteV b)]) ∧ h[je]? = some (.cells 105 [.ref ce 0]) ∧ ∃ e0, h[ce]? = some (.cells 60 [.int .i64 e0])
theorem fields_law {jb je ce : Nat} {b : List UInt8} {h : H} {l0 : List FieldT} (hb : jb ≠ ce) (he : je ≠ ce) (h0 : Ob jb je ce b h) (hl : fieldsT b = .ok l0) : IterLaw Try.prog 77 [.ref jb 0, .ref je 0] h [jb, je, ce] (l0.map (fieldStep ce)) := by
  refine iterLaw_of_wpY (keep := [0, 1, 2, 4, 5, 6, 7, 11, 31]) (tk := []) (n := 35) ty_tab Try.func77 rfl (by kernel_rfl) rfl rfl (by simp) fun lp => ?_
  simp only [initEnv, List.map_cons, List.map_nil, List.getD_cons_zero, List.getD_cons_succ, List.getD_nil, V.demote]
  refine y_seq (y_reg ?_)
  simp only [ey_nil, ey_cons, yOp, go_sem, ↓evs_eq, Nat.reduceAdd, ↓reduceIte, Nat.reduceEqDiff, Nat.reduceBEq, Nat.reduceBNe, Nat.reduceLT, Int.reduceToNat, Int.reduceEq, Int.reduceLT, Int.reduceLE, reduceCtorEq, Nat.reduceMul, Nat.reduceLeDiff, Int.toNat_natCast, List.take_succ_cons, List.take_zero]
  refine y_block (y_loop (fun k s env h' => ∃ i l, fieldsGo b k i = .ok l ∧ s = ⟨true, l.map (fieldStep ce), h'⟩ ∧ Ob jb je ce b h' ∧ env = [(0, yv lp), (1, .ref jb 0), (2, .ref je 0), (4, .int .i64 i), (5, .top), (6, .top), (7, .top), (11, .top), (31, .top)]) ⟨Many, Wk.same ⟨0, l0, hl, rfl, h0, rfl⟩⟩ ?_)
  rintro k s env h' - ⟨i, l, hl, rfl, hob, rfl⟩ N hN
  obtain ⟨h1, h2, e0, h3⟩ := id hob
  cases k with
  | zero => cases hl
  | succ k =>
  rw [fieldsGo] at hl
  refine y_seq (y_seq (y_reg ?_))
  simp only [h1, h2, h3, ey_nil, ey_cons, yOp, go_sem, byte_len, ↓evs_eq, Nat.reduceAdd, ↓reduceIte, Nat.reduceEqDiff, Nat.reduceBEq, Nat.reduceBNe, Nat.reduceLT, Int.reduceToNat, Int.reduceEq, Int.reduceLT, Int.reduceLE, reduceCtorEq, Nat.reduceMul, Nat.reduceLeDiff, Int.toNat_natCast, List.take_succ_cons, List.take_zero]

  by_cases hlt : i < (b.length : Int)
  · rw [if_pos hlt] at hl
    by_cases hi0 : 0 ≤ i
    · rw [if_pos hi0] at hl
      have hd1 : decide (i < (b.length : Int)) = true := by simpa using hlt
      refine y_cond_t (by simp only [go_sem, ↓reduceIte, Nat.reduceEqDiff, hd1]) (y_skip ?_)
      simp only [thenQ]
      cases ht : T.wire_Take (b.drop i.toNat) with
      | pan v => rw [ht] at hl; cases hl
      | stuck => rw [ht] at hl; cases hl
      | ok r =>
      rw [ht] at hl
      simp only [R.sure, R.bind_ok] at hl
      refine y_block (y_seq (y_reg ?_))
      simp only [h1, h2, h3, ey_nil, ey_cons, yOp, go_sem, byte_len, ← List.map_drop, ↓evs_eq, Nat.reduceAdd, ↓reduceIte, Nat.reduceEqDiff, Nat.reduceBEq, Nat.reduceBNe, Nat.reduceLT, Int.reduceToNat, Int.reduceEq, Int.reduceLT, Int.reduceLE, reduceCtorEq, Nat.reduceMul, Nat.reduceLeDiff, Int.toNat_natCast, List.take_succ_cons, List.take_zero]
      have lt1 : jb < h'.length := (List.getElem?_eq_some_iff.1 h1).1
      have lt2 : je < h'.length := (List.getElem?_eq_some_iff.1 h2).1
      have lt3 : ce < h'.length := (List.getElem?_eq_some_iff.1 h3).1
      have f1 : ∀ L : List AObj, (h' ++ L)[jb]? = some (.cells 28 [.sl 1 (List.map byteV b)]) := fun L => by rw [List.getElem?_append_left lt1]; exact h1
      have f2 : ∀ L : List AObj, (h' ++ L)[je]? = some (.cells 105 [.ref ce 0]) := fun L => by rw [List.getElem?_append_left lt2]; exact h2
      have f3 : ∀ L : List AObj, (h' ++ L)[ce]? = some (.cells 60 [.int .i64 e0]) := fun L => by rw [List.getElem?_append_left lt3]; exact h3
      have s3 : ∀ (L : List AObj) (x : AObj), List.set (h' ++ L) ce x = h'.set ce x ++ L := fun L x => List.set_append_left _ _ lt3
      have gl : ∀ (x : AObj) (L : List AObj), (h'.set ce x ++ L)[h'.length]? = L[0]? := fun x L => by rw [List.getElem?_append_right (by simp)]; simp
      refine ⟨⟨hi0, by omega⟩, take_sound ht ?_⟩
      simp only [h1, h2, h3, f1, f2, f3, s3, gl, ey_nil, ey_cons, yOp, go_sem, byte_len, ← List.map_drop, ↓evs_eq, Nat.reduceAdd, ↓reduceIte, Nat.reduceEqDiff, Nat.reduceBEq, Nat.reduceBNe, Nat.reduceLT, Int.reduceToNat, Int.reduceEq, Int.reduceLT, Int.reduceLE, reduceCtorEq, Nat.reduceMul, Nat.reduceLeDiff, Int.toNat_natCast, List.take_succ_cons, List.take_zero]
      refine y_seq (y_reg ?_)
      simp only [h1, h2, h3, f1, f2, f3, s3, gl, ey_nil, ey_cons, yOp, go_sem, byte_len, ← List.map_drop, ↓evs_eq, Nat.reduceAdd, ↓reduceIte, Nat.reduceEqDiff, Nat.reduceBEq, Nat.reduceBNe, Nat.reduceLT, Int.reduceToNat, Int.reduceEq, Int.reduceLT, Int.reduceLE, reduceCtorEq, Nat.reduceMul, Nat.reduceLeDiff, Int.toNat_natCast, List.take_succ_cons, List.take_zero]
      refine y_seq (y_seq (y_reg ?_))
      simp only [h1, h2, h3, f1, f2, f3, s3, gl, ey_nil, ey_cons, yOp, go_sem, byte_len, ← List.map_drop, ↓evs_eq, Nat.reduceAdd, ↓reduceIte, Nat.reduceEqDiff, Nat.reduceBEq, Nat.reduceBNe, Nat.reduceLT, Int.reduceToNat, Int.reduceEq, Int.reduceLT, Int.reduceLE, reduceCtorEq, Nat.reduceMul, Nat.reduceLeDiff, Int.toNat_natCast, List.take_succ_cons, List.take_zero]
      obtain ⟨l', rfl, hl'⟩ : ∃ l', l = (i, (r.1.Num, r.1.Kind, r.1.N, r.1.B), r.2.2) :: l' ∧ ((r.2.2 = 0 ∧ fieldsGo b k (IntKind.wrap .i64 (i + r.2.1)) = .ok l') ∨ (r.2.2 ≠ 0 ∧ l' = [])) := by
        by_cases hz : r.2.2 = 0
        · rw [if_pos hz] at hl
          cases hg : fieldsGo b k (IntKind.wrap .i64 (i + r.2.1)) with
          | ok l' => rw [hg] at hl; injection hl with hl; exact ⟨l', hl.symm, .inl ⟨hz, rfl⟩⟩
          | pan v => rw [hg] at hl; cases hl
          | stuck => rw [hg] at hl; cases hl
        · rw [if_neg hz] at hl; injection hl with hl; exact ⟨[], hl.symm, .inr ⟨hz, rfl⟩⟩
      refine ⟨by simp [dstOk], Wk.dropA0 (by simp) (okA_set1C (okA_base _ _) (cl_cons (.int _ _) cl_nil))
        (EnvLe.cons (.refl _) (EnvLe.cons (.refl _) (EnvLe.cons (.refl _) (EnvLe.cons (.refl _) (EnvLe.cons (.top _) (EnvLe.cons (.refl _) (EnvLe.cons (.refl _) (EnvLe.cons (.top _) (EnvLe.cons (.top _) (EnvLe.cons (.top _) (EnvLe.cons (.refl _) (EnvLe.cons (.refl _) EnvLe.nil))))))))))))
        (EnvCl.cons (.raw _) (EnvCl.cons (.ref _ _ lt1) (EnvCl.cons (.ref _ _ lt2) (EnvCl.cons (.int _ _) (EnvCl.cons .top (EnvCl.cons (.int _ _) (EnvCl.cons (.int _ _) (EnvCl.cons .top (EnvCl.cons .top (EnvCl.cons .top (EnvCl.cons (.int _ _) (EnvCl.cons (.agg _ (cl_cons (.int _ _) (cl_cons (.int _ _) (cl_cons (.int _ _) (cl_cons (.sl _ _ (cl_map (fun x => cl_byte x))) cl_nil))))) (EnvCl.nil _)))))))))))))
        ⟨fieldStep ce (i, (r.1.Num, r.1.Kind, r.1.N, r.1.B), r.2.2), l'.map (fieldStep ce), rfl, rfl, ?_, rfl, fun h3 hown => ?_, fun h3 => ?_⟩⟩
      · simp only [ey_nil, ey_cons, yOp, go_sem, fieldStep, rawV, ↓evs_eq, Nat.reduceAdd, ↓reduceIte, Nat.reduceEqDiff, Nat.reduceBEq, Nat.reduceBNe, Nat.reduceLT, Int.reduceToNat, Int.reduceEq, Int.reduceLT, Int.reduceLE, reduceCtorEq, Nat.reduceMul, Nat.reduceLeDiff, Int.toNat_natCast, List.take_succ_cons, List.take_zero]
      · have hob3 : Ob jb je ce b h3 := by
          have u1 := hown jb (by simp)
          have u2 := hown je (by simp)
          have u3 := hown ce (by simp)
          simp only [fieldStep, updH] at u1 u2 u3
          rw [List.getElem?_set_ne (Ne.symm hb), h1] at u1
          rw [List.getElem?_set_ne (Ne.symm he), h2] at u2
          rw [List.getElem?_set_self lt3] at u3
          exact ⟨u1, u2, _, u3⟩
        rcases hl' with ⟨hz, hg⟩ | ⟨hz, rfl⟩
        · have hd : decide (r.2.2 = 0) = true := by simpa using hz
          simp only [ey_nil, ey_cons, yOp, go_sem, hd, ↓evs_eq, Nat.reduceAdd, ↓reduceIte, Nat.reduceEqDiff, Nat.reduceBEq, Nat.reduceBNe, Nat.reduceLT, Int.reduceToNat, Int.reduceEq, Int.reduceLT, Int.reduceLE, reduceCtorEq, Nat.reduceMul, Nat.reduceLeDiff, Int.toNat_natCast, List.take_succ_cons, List.take_zero]
          refine y_cond_f (by simp only [go_sem, ↓reduceIte, Nat.reduceEqDiff]) (y_skip ?_)
          simp only [thenQ]
          refine y_reg ?_
          simp only [ey_nil, ey_cons, yOp, go_sem, ↓evs_eq, Nat.reduceAdd, ↓reduceIte, Nat.reduceEqDiff, Nat.reduceBEq, Nat.reduceBNe, Nat.reduceLT, Int.reduceToNat, Int.reduceEq, Int.reduceLT, Int.reduceLE, reduceCtorEq, Nat.reduceMul, Nat.reduceLeDiff, Int.toNat_natCast, List.take_succ_cons, List.take_zero, thenQ]
          exact Wk.le (EnvLe.cons (.refl _) (EnvLe.cons (.refl _) (EnvLe.cons (.refl _) (EnvLe.cons (.refl _) (EnvLe.cons (.top _) (EnvLe.cons (.top _) (EnvLe.cons (.top _) (EnvLe.cons (.top _) (EnvLe.cons (.top _) EnvLe.nil))))))))) (hN k (by omega) _ _ _ ⟨_, l', hg, rfl, hob3, rfl⟩)
        · have hd : decide (r.2.2 = 0) = false := by simpa using hz
          simp only [ey_nil, ey_cons, yOp, go_sem, hd, ↓evs_eq, Nat.reduceAdd, ↓reduceIte, Nat.reduceEqDiff, Nat.reduceBEq, Nat.reduceBNe, Nat.reduceLT, Int.reduceToNat, Int.reduceEq, Int.reduceLT, Int.reduceLE, reduceCtorEq, Nat.reduceMul, Nat.reduceLeDiff, Int.toNat_natCast, List.take_succ_cons, List.take_zero]
          refine y_cond_t (by simp only [go_sem, ↓reduceIte, Nat.reduceEqDiff]) (y_ret ?_)
          simp only [thenQ]
          exact ⟨fun _ => rfl, Wk.same rfl⟩
      · simp only [ey_nil, ey_cons, yOp, go_sem, ↓evs_eq, Nat.reduceAdd, ↓reduceIte, Nat.reduceEqDiff, Nat.reduceBEq, Nat.reduceBNe, Nat.reduceLT, Int.reduceToNat, Int.reduceEq, Int.reduceLT, Int.reduceLE, reduceCtorEq, Nat.reduceMul, Nat.reduceLeDiff, Int.toNat_natCast, List.take_succ_cons, List.take_zero]
        refine y_cond_t (by simp only [go_sem, ↓reduceIte, Nat.reduceEqDiff]) (y_ret ?_)
        simp only [thenQ]
        exact ⟨fun e => (by cases e), Wk.same rfl⟩
    · rw [if_neg hi0] at hl; cases hl
  · rw [if_neg hlt] at hl
    injection hl with hl
    subst hl
    have hd1 : decide (i < (b.length : Int)) = false := by simpa using hlt
    refine y_cond_f (by simp only [go_sem, ↓reduceIte, Nat.reduceEqDiff, hd1]) (y_exit ?_)
    simp only [thenQ, ↓reduceIte]
    exact ⟨fun _ => rfl, Wk.same rfl⟩
/-- What is told of the iterators is so. -/
theorem iterP_sound : ∀ f args h Q, iterP f args h Q → Sound Try.prog f args h Q := fun f args h Q hf => by
  rcases hf with ⟨rfl, id, xs, rfl, h2, h3, h4, hq⟩ | ⟨rfl, jb, je, ce, b, e0, l, rfl, h2, h3, h4, h5, h6, h7, hq⟩
  · exact Sound.of_iter ⟨_, _, hq, back_law (C := Try.prog) h2 h3 h4⟩
  · exact Sound.of_iter ⟨_, _, hq, fields_law h2 h3 ⟨h4, h5, e0, h6⟩ h7⟩
end Go.Proofs.Ytpbnnbjkjaajnaa.Pv
