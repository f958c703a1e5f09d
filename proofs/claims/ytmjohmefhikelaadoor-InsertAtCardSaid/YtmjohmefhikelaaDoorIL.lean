/- The iterator over a text's lines: its law. -/
import Derived.Test.YtmjohmefhikelaaDoorPwYi
import Derived.Test.YtmjohmefhikelaaDoorQP
import Derived.Test.YtmjohmefhikelaaDoorShelf
set_option linter.unusedVariables false
set_option linter.unusedSimpArgs false
set_option maxHeartbeats 4000000
set_option maxRecDepth 10000
namespace Go.Proofs.YtmjohmefhikelaaDoor.Pv
open Go Go.Proofs
section
variable {ty : Nat → Ty} {C : CallP} {n : Nat} {keep tk : List Nat} {l : Nat} {own : List Nat} {ops os : List Oper} {o : Oper} {K : YSt → Env → H → Prop} {Q : YSt → PostX} {s : YSt} {env : Env} {h : H} {a b : Code}
theorem ey_nil : evalOpsY ty C n tk l own ops K [] s env h = K s env h := rfl
theorem ey_cons : evalOpsY ty C n tk l own ops K (o :: os) s env h = match yOp l o env with
    | some zs => yieldK ty n own o zs (evalOpsY ty C n tk l own ops K os) s env h
    | none => runOp ty C n tk (wanted ops o env) o env h (evalOpsY ty C n tk l own ops K os s) (fun _ _ _ => False) := rfl
theorem y_seq (hw : wpY ty C n keep tk l own a (fun s => thenQ (wpY ty C n keep tk l own b Q s) (Q s)) s env h) : wpY ty C n keep tk l own (.seq a b) Q s env h := hw
theorem y_reg {id : Nat} {l' : List Oper} (hw : evalOpsY ty C n tk l own l' (fun s env h => Q s .normal (env.keep keep) h) l' s env h) : wpY ty C n keep tk l own (.region id ⟨l'⟩ false) Q s env h := by
  simp only [wpY, Bool.false_eq_true, if_false]; exact hw
theorem y_draw {id : Nat} {l' : List Oper} (hw : wp ty C n keep tk (.region id ⟨l'⟩ true) (fun e env h => match e with | .normal => Q s .normal env h | _ => False) env h) : wpY ty C n keep tk l own (.region id ⟨l'⟩ true) Q s env h := by
  simp only [wpY, if_true]; exact hw
theorem y_block {id : Nat} (hw : wpY ty C n keep tk l own b (fun s e env h => match e with | .exit id' => if id' = id then Q s .normal env h else Q s (.exit id') env h | e => Q s e env h) s env h) : wpY ty C n keep tk l own (.block id b) Q s env h := hw
theorem y_cond_t {c : Operand} (hc : ev ty env 0 c = .bool true) (hw : wpY ty C n keep tk l own a Q s env h) : wpY ty C n keep tk l own (.cond c a b) Q s env h := by simp only [wpY, hc, if_true]; exact hw
theorem y_cond_f {c : Operand} (hc : ev ty env 0 c = .bool false) (hw : wpY ty C n keep tk l own b Q s env h) : wpY ty C n keep tk l own (.cond c a b) Q s env h := by simp only [wpY, hc, Bool.false_eq_true, if_false]; exact hw
theorem y_exit {id : Nat} (hw : Q s (.exit id) env h) : wpY ty C n keep tk l own (.exit id) Q s env h := hw
theorem y_skip (hw : Q s .normal env h) : wpY ty C n keep tk l own .skip Q s env h := hw
theorem y_ret (hw : Q s .ret env h) : wpY ty C n keep tk l own .ret Q s env h := hw
/-- A loop: what holds at each round's begin, and becomes less. -/
theorem y_loop (J : Nat → YSt → Env → H → Prop) (hk : ∃ k, Wk s.hl (J k s) env h) (step : ∀ k s env h, J k s env h → ∀ N : YSt → Env → H → Prop, (∀ k' < k, ∀ s env h, J k' s env h → N s env h) → wpY ty C n keep tk l own b (fun s => thenQ (Wk s.hl (N s)) (Q s)) s env h) : wpY ty C n keep tk l own (.loop b) Q s env h := by
  intro I hI
  have all : ∀ k s env h, J k s env h → I s env h := by
    intro k
    induction k using Nat.strongRecOn with
    | ind k ih => exact fun s env h hj => hI s env h (step k s env h hj I fun k' hk' s env h hj' => ih k' hk' s env h hj')
  obtain ⟨k, env', h', hw, hk⟩ := hk
  exact ⟨env', h', hw, all k s env' h' hk⟩
end
theorem sound_mono (P : Program) : CMono (Sound P) (Sound P) := fun f args h Q Q' hQ hs =>
  ⟨fun hlt => ⟨(hs.1 hlt).1, fun D w g cargs hh ha => ((hs.1 hlt).2 D w g cargs hh ha).mono fun e w' ⟨g', h', x1, x2, hc⟩ => ⟨g', h', x1, x2, hc.imp (fun ⟨v, u, i, a, b, c⟩ => ⟨v, u, i, a, hQ _ _ b, c⟩) (fun ⟨v, u, a, b, c⟩ => ⟨v, u, a, hQ _ _ b, c⟩)⟩⟩,
   fun hge => let ⟨own, ss, hq, hl⟩ := hs.2 hge; ⟨own, ss, hQ _ _ hq, hl⟩⟩
attribute [local go_sem] RC RL RM loadN V.slz V.slz1 lnB V.left V.lenOf slice3 sliceNil Option.getD_none Option.getD_some sliceOp cut upon_each nextM entryOp buildOk lookup lookV update elemOf Option.isSome_map unOp wanted aop tkB rwB neD Env.get Env.put Env.keep putD dstOk ev constV nilSlice V.demote V.toOwn V.asOwn V.cells tyE R1.res binOp isShift binOpT isC intOp strOp shiftOp byteV index indexAddr slice bounds hiB loB withB maxV minV evs pickV lenV builtin initEnv convert K.isU8 strOf load store fieldOf append appT fltOp cpxV realV imagV toInt rangeOp nextOp room fill placeOf splice repl chunks Ty.val Ty.agg V.plain H.row H.ety AObj.row putAll demEnv updH
abbrev yv (l : Nat) : V := .raw (.func (.yield l) ⟨[]⟩ ⟨[]⟩)
theorem wrap64i {n : Int} (h : -9223372036854775808 ≤ n ∧ n ≤ 9223372036854775807) : IntKind.wrap .i64 n = n := wrap64 h
theorem index_sound {s : List UInt8} {c : Int} {h : H} {Q : Out → H → Prop} (hq : Q (.ret (.int .i64 (Lib.indexByte s c.toNat.toUInt8))) h) : Sound Tryd.prog 29 [.str s, .int .u8 c] h Q := by
  refine .of (by decide) ⟨⟨Tryd.f29, Tryd.func29, by kernel_rfl, by kernel_rfl⟩, fun D w g cargs hh hargs => ?_⟩
  obtain ⟨hl, hr⟩ := hargs
  match hc : cargs.toList, hl with
  | [u, v], _ =>
    rw [hc] at hr
    obtain ⟨b, rfl, rfl⟩ := (hr 0 _ u rfl rfl).str_inv
    have e2 := (hr 1 _ v rfl rfl).int_inv
    subst e2
    have e : cargs = #[.string b, .int .u8 c] := by apply Array.ext'; rw [hc]
    subst e
    refine (Tryd.strings_IndexByte b c w).mono fun e w' he => ?_
    obtain ⟨rfl, rfl⟩ := he
    exact ⟨g, h, Ext.refl _ _ _, hh, .inl ⟨_, _, 0, rfl, hq, .inl (.int _ _)⟩⟩
theorem index_lt (l : List UInt8) (c : UInt8) : Lib.indexByte l c < l.length := by
  induction l with
  | nil => simp [Lib.indexByte]
  | cons b l ih =>
    unfold Lib.indexByte
    simp only [List.length_cons]
    split
    · omega
    · split
      · omega
      · omega
theorem lines_law [SortOK Tryd.prog] {id : Nat} {s0 : List UInt8} {h : H} (h0 : h[id]? = some (.cells 9 [.str s0])) (hl0 : s0.length ≤ 4000000000) : IterLaw Tryd.prog 28 [.ref id 0] h [id] ((linesP s0).map (lineStep id)) := by
  refine iterLaw_of_wpY (keep := [0, 1, 3, 4, 7, 11, 24]) (tk := []) (n := 25) ty_tab mixed Tryd.func28 rfl (by kernel_rfl) rfl rfl (by simp) fun lp => ?_
  simp only [initEnv, List.map_cons, List.map_nil, List.getD_cons_zero, List.getD_cons_succ, List.getD_nil, V.demote]
  refine y_block (y_loop (fun k st env h' => ∃ s, s.length ≤ k ∧ s.length ≤ 4000000000 ∧ st = ⟨true, (linesGo k s).map (lineStep id), h'⟩ ∧ h'[id]? = some (.cells 9 [.str s]) ∧ env = [(0, yv lp), (1, .ref id 0), (3, .top), (4, .top), (7, .top), (11, .top), (24, .top)]) ⟨s0.length, Wk.same ⟨s0, Nat.le_refl _, hl0, rfl, h0, rfl⟩⟩ ?_)
  rintro k st env h' ⟨s, hk, hls, rfl, h1, rfl⟩ N hN
  refine y_seq (y_seq (y_reg ?_))
  simp only [h1, ey_nil, ey_cons, yOp, go_sem, ↓evs_eq, Nat.reduceAdd, ↓reduceIte, Nat.reduceEqDiff, Nat.reduceBEq, Nat.reduceBNe, Nat.reduceLT, Int.reduceToNat, Int.reduceEq, Int.reduceLT, Int.reduceLE, reduceCtorEq, Nat.reduceMul, Nat.reduceLeDiff, Int.toNat_natCast, List.take_succ_cons, List.take_zero]
  by_cases hs : s = []
  · subst hs
    refine y_cond_f (by simp only [go_sem, ↓reduceIte, Nat.reduceEqDiff]; rfl) (y_exit ?_)
    simp only [thenQ, ↓reduceIte]
    refine ⟨fun _ => ?_, Wk.same rfl⟩
    cases k with
    | zero => rfl
    | succ k => rfl
  have hpos : 0 < s.length := List.length_pos_iff.2 hs
  cases k with
  | zero => omega
  | succ k =>
  have hd : decide (0 < (s.length : Int)) = true := by simpa using hpos
  refine y_cond_t (by simp only [go_sem, ↓reduceIte, Nat.reduceEqDiff]; first | exact congrArg V.bool hd | skip) (y_skip ?_)
  simp only [thenQ]
  refine y_block (y_seq (y_reg ?_))
  simp only [h1, ey_nil, ey_cons, yOp, go_sem, ↓evs_eq, Nat.reduceAdd, ↓reduceIte, Nat.reduceEqDiff, Nat.reduceBEq, Nat.reduceBNe, Nat.reduceLT, Int.reduceToNat, Int.reduceEq, Int.reduceLT, Int.reduceLE, reduceCtorEq, Nat.reduceMul, Nat.reduceLeDiff, Int.toNat_natCast, List.take_succ_cons, List.take_zero]
  refine y_seq (y_seq (y_reg ?_))
  simp only [h1, ey_nil, ey_cons, yOp, go_sem, ↓evs_eq, Nat.reduceAdd, ↓reduceIte, Nat.reduceEqDiff, Nat.reduceBEq, Nat.reduceBNe, Nat.reduceLT, Int.reduceToNat, Int.reduceEq, Int.reduceLT, Int.reduceLE, reduceCtorEq, Nat.reduceMul, Nat.reduceLeDiff, Int.toNat_natCast, List.take_succ_cons, List.take_zero]
  refine index_sound ?_
  simp only [show Nat.toUInt8 (Int.toNat 10) = (10 : UInt8) from rfl, show Nat.toUInt8 10 = (10 : UInt8) from rfl, h1, ey_nil, ey_cons, yOp, go_sem, ↓evs_eq, Nat.reduceAdd, ↓reduceIte, Nat.reduceEqDiff, Nat.reduceBEq, Nat.reduceBNe, Nat.reduceLT, Int.reduceToNat, Int.reduceEq, Int.reduceLT, Int.reduceLE, reduceCtorEq, Nat.reduceMul, Nat.reduceLeDiff, Int.toNat_natCast, List.take_succ_cons, List.take_zero]
  refine y_seq (y_reg ?_)
  simp only [h1, ey_nil, ey_cons, yOp, go_sem, ↓evs_eq, Nat.reduceAdd, ↓reduceIte, Nat.reduceEqDiff, Nat.reduceBEq, Nat.reduceBNe, Nat.reduceLT, Int.reduceToNat, Int.reduceEq, Int.reduceLT, Int.reduceLE, reduceCtorEq, Nat.reduceMul, Nat.reduceLeDiff, Int.toNat_natCast, List.take_succ_cons, List.take_zero]
  have hlt := index_lt s 10
  by_cases hi : 0 ≤ Lib.indexByte s 10
  · generalize hgi : Lib.indexByte s 10 = i at hi hlt ⊢
    obtain ⟨j, rfl⟩ := Int.eq_ofNat_of_zero_le hi
    have ew : IntKind.wrap .i64 ((j : Int) + 1) = ((j + 1 : Nat) : Int) := by rw [wrap64i (by omega)]; omega
    have hss : linesGo (k + 1) s = (s.take (j + 1), s.drop (j + 1)) :: linesGo k (s.drop (j + 1)) := by
      rw [linesGo, if_neg hs, hgi, if_neg (by omega)]; rfl
    refine y_cond_t (by simp only [go_sem, ↓reduceIte, Nat.reduceEqDiff]; exact congrArg V.bool (decide_eq_true hi)) (y_draw ?_)
    refine wp_drawS [] (sound_mono _) 9 (by rfl) (by rfl) (by rfl) (by rfl) (by rfl) (by rfl) (by kernel_rfl) (by rfl) (by kernel_rfl) (by kernel_rfl) (by kernel_rfl) ?_
    simp only [stK, evalPureT_nil, evalPureT_cons, pureKT_tt, pureKT_ff, pureRT_val, pureRT_call, takeT, takeOf, List.contains_cons, List.contains_nil, Bool.or_false, implies_true, false_imp_iff, true_imp_iff, true_and, BEq.rfl, h1, ew, ey_nil, ey_cons, yOp, go_sem, ↓evs_eq, Nat.reduceAdd, ↓reduceIte, Nat.reduceEqDiff, Nat.reduceBEq, Nat.reduceBNe, Nat.reduceLT, Int.reduceToNat, Int.reduceEq, Int.reduceLT, Int.reduceLE, reduceCtorEq, Nat.reduceMul, Nat.reduceLeDiff, Int.toNat_natCast, List.take_succ_cons, List.take_zero]
    refine ⟨by omega, by omega, ?_⟩
    refine y_seq (y_reg ?_)
    simp only [h1, ey_nil, ey_cons, yOp, go_sem, ↓evs_eq, Nat.reduceAdd, ↓reduceIte, Nat.reduceEqDiff, Nat.reduceBEq, Nat.reduceBNe, Nat.reduceLT, Int.reduceToNat, Int.reduceEq, Int.reduceLT, Int.reduceLE, reduceCtorEq, Nat.reduceMul, Nat.reduceLeDiff, Int.toNat_natCast, List.take_succ_cons, List.take_zero]
    refine ⟨by simp [dstOk], Wk.same ⟨lineStep id (s.take (j + 1), s.drop (j + 1)), (linesGo k (s.drop (j + 1))).map (lineStep id), rfl, by rw [hss]; rfl, ?_, rfl, fun h3 hown => ?_, fun h3 => ?_⟩⟩
    · simp only [go_sem, lineStep, ↓evs_eq, Nat.reduceAdd, ↓reduceIte, Nat.reduceEqDiff, Nat.reduceBEq, Nat.reduceBNe, Nat.reduceLT, Int.reduceToNat, Int.reduceEq, Int.reduceLT, Int.reduceLE, reduceCtorEq, Nat.reduceMul, Nat.reduceLeDiff, Int.toNat_natCast, List.take_succ_cons, List.take_zero]
    · have h3' : h3[id]? = some (.cells 9 [.str (s.drop (j + 1))]) := by
        rw [hown id (by simp)]
        exact List.getElem?_set_self (List.getElem?_eq_some_iff.1 h1).1
      simp only [ey_nil, ey_cons, yOp, go_sem, ↓evs_eq, Nat.reduceAdd, ↓reduceIte, Nat.reduceEqDiff, Nat.reduceBEq, Nat.reduceBNe, Nat.reduceLT, Int.reduceToNat, Int.reduceEq, Int.reduceLT, Int.reduceLE, reduceCtorEq, Nat.reduceMul, Nat.reduceLeDiff, Int.toNat_natCast, List.take_succ_cons, List.take_zero]
      refine y_cond_f (by simp only [go_sem, ↓reduceIte, Nat.reduceEqDiff]) (y_skip ?_)
      simp only [thenQ]
      exact Wk.le (EnvLe.cons (.refl _) (EnvLe.cons (.refl _) (EnvLe.cons (.top _) (EnvLe.cons (.top _) (EnvLe.cons (.top _) (EnvLe.cons (.top _) (EnvLe.cons (.top _) EnvLe.nil))))))) (hN k (by omega) _ _ _ ⟨s.drop (j + 1), by simp; try omega, by simp; try omega, rfl, h3', rfl⟩)
    · simp only [ey_nil, ey_cons, yOp, go_sem, ↓evs_eq, Nat.reduceAdd, ↓reduceIte, Nat.reduceEqDiff, Nat.reduceBEq, Nat.reduceBNe, Nat.reduceLT, Int.reduceToNat, Int.reduceEq, Int.reduceLT, Int.reduceLE, reduceCtorEq, Nat.reduceMul, Nat.reduceLeDiff, Int.toNat_natCast, List.take_succ_cons, List.take_zero]
      refine y_cond_t (by simp only [go_sem, ↓reduceIte, Nat.reduceEqDiff]) (y_ret ?_)
      simp only [thenQ]
      exact ⟨fun e => (by cases e), Wk.same rfl⟩
  · have hss : linesGo (k + 1) s = (s, []) :: linesGo k [] := by
      rw [linesGo, if_neg hs, if_pos (by omega)]
      cases k <;> rfl
    refine y_cond_f (by simp only [go_sem, ↓reduceIte, Nat.reduceEqDiff]; exact congrArg V.bool (decide_eq_false hi)) (y_reg ?_)
    simp only [h1, ey_nil, ey_cons, yOp, go_sem, ↓evs_eq, Nat.reduceAdd, ↓reduceIte, Nat.reduceEqDiff, Nat.reduceBEq, Nat.reduceBNe, Nat.reduceLT, Int.reduceToNat, Int.reduceEq, Int.reduceLT, Int.reduceLE, reduceCtorEq, Nat.reduceMul, Nat.reduceLeDiff, Int.toNat_natCast, List.take_succ_cons, List.take_zero]
    refine y_seq (y_reg ?_)
    simp only [h1, ey_nil, ey_cons, yOp, go_sem, ↓evs_eq, Nat.reduceAdd, ↓reduceIte, Nat.reduceEqDiff, Nat.reduceBEq, Nat.reduceBNe, Nat.reduceLT, Int.reduceToNat, Int.reduceEq, Int.reduceLT, Int.reduceLE, reduceCtorEq, Nat.reduceMul, Nat.reduceLeDiff, Int.toNat_natCast, List.take_succ_cons, List.take_zero]
    refine ⟨by simp [dstOk], Wk.same ⟨lineStep id (s, ([] : List UInt8)), (linesGo k (([] : List UInt8))).map (lineStep id), rfl, by rw [hss]; rfl, ?_, rfl, fun h3 hown => ?_, fun h3 => ?_⟩⟩
    · simp only [go_sem, lineStep, ↓evs_eq, Nat.reduceAdd, ↓reduceIte, Nat.reduceEqDiff, Nat.reduceBEq, Nat.reduceBNe, Nat.reduceLT, Int.reduceToNat, Int.reduceEq, Int.reduceLT, Int.reduceLE, reduceCtorEq, Nat.reduceMul, Nat.reduceLeDiff, Int.toNat_natCast, List.take_succ_cons, List.take_zero]
    · have h3' : h3[id]? = some (.cells 9 [.str (([] : List UInt8))]) := by
        rw [hown id (by simp)]
        exact List.getElem?_set_self (List.getElem?_eq_some_iff.1 h1).1
      simp only [ey_nil, ey_cons, yOp, go_sem, ↓evs_eq, Nat.reduceAdd, ↓reduceIte, Nat.reduceEqDiff, Nat.reduceBEq, Nat.reduceBNe, Nat.reduceLT, Int.reduceToNat, Int.reduceEq, Int.reduceLT, Int.reduceLE, reduceCtorEq, Nat.reduceMul, Nat.reduceLeDiff, Int.toNat_natCast, List.take_succ_cons, List.take_zero]
      refine y_cond_f (by simp only [go_sem, ↓reduceIte, Nat.reduceEqDiff]) (y_skip ?_)
      simp only [thenQ]
      exact Wk.le (EnvLe.cons (.refl _) (EnvLe.cons (.refl _) (EnvLe.cons (.top _) (EnvLe.cons (.top _) (EnvLe.cons (.top _) (EnvLe.cons (.top _) (EnvLe.cons (.top _) EnvLe.nil))))))) (hN k (by omega) _ _ _ ⟨([] : List UInt8), by simp; try omega, by simp; try omega, rfl, h3', rfl⟩)
    · simp only [ey_nil, ey_cons, yOp, go_sem, ↓evs_eq, Nat.reduceAdd, ↓reduceIte, Nat.reduceEqDiff, Nat.reduceBEq, Nat.reduceBNe, Nat.reduceLT, Int.reduceToNat, Int.reduceEq, Int.reduceLT, Int.reduceLE, reduceCtorEq, Nat.reduceMul, Nat.reduceLeDiff, Int.toNat_natCast, List.take_succ_cons, List.take_zero]
      refine y_cond_t (by simp only [go_sem, ↓reduceIte, Nat.reduceEqDiff]) (y_ret ?_)
      simp only [thenQ]
      exact ⟨fun e => (by cases e), Wk.same rfl⟩
end Go.Proofs.YtmjohmefhikelaaDoor.Pv
