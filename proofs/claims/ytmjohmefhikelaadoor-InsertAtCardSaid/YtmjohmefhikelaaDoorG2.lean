/- Functions of the program, as plain Lean functions, and that the code comes to them: printed by gen.py. -/
import Derived.Test.YtmjohmefhikelaaDoorG1
set_option linter.unusedVariables false
set_option linter.unusedSimpArgs false
set_option maxHeartbeats 4000000
set_option maxRecDepth 10000
namespace Go.Proofs.YtmjohmefhikelaaDoor.Pv
open Go Go.Proofs

attribute [local go_sem] RC RL RM roundK_x roundK_g roundK_r loadN V.slz V.slz1 lnB V.left V.lenOf slice3 sliceNil Option.getD_none Option.getD_some sliceOp cut upon_each nextM entryOp buildOk lookup lookV update elemOf Option.isSome_map unOp wanted aop tkB rwB neD Env.get Env.put Env.keep putD dstOk ev constV nilSlice V.demote V.toOwn V.asOwn V.cells tyE R1.res binOp isShift binOpT isC intOp strOp shiftOp byteV index indexAddr slice bounds hiB loB withB maxV minV evs pickV lenV builtin initEnv convert K.isU8 strOf load store fieldOf append appT fltOp cpxV realV imagV toInt rangeOp nextOp room fill placeOf splice repl chunks Ty.val Ty.agg V.plain H.row H.ety AObj.row putAll demEnv updH
def insert_At_j0 (o1_0_457 : Bool) (o1_1_457 : List UInt8) (o4_0_457 : List UInt8) : R ((List UInt8) × Bool) :=
  (strings_Builder_String o1_0_457 o1_1_457).sure.bind fun r461 => R.ok (r461.1, true)
def insert_At_j2 (self_insert_At_r1 : Bool → List UInt8 → List UInt8 → R (Bool × (List UInt8) × (List UInt8))) (e469 : List UInt8 × List UInt8) (o1_0_885 : Bool) (o1_1_885 : List UInt8) : R (Bool × (List UInt8) × (List UInt8)) :=
  (strings_Builder_WriteString o1_0_885 o1_1_885 e469.1).sure.bind fun r889 => self_insert_At_r1 r889.2.1 r889.2.2 e469.2
def insert_At_j4 (self_insert_At_r3 : Bool → List UInt8 → List UInt8 → R (Bool × (List UInt8) × (List UInt8))) (e902 : List UInt8 × List UInt8) (o1_0_990 : Bool) (o1_1_990 : List UInt8) : R (Bool × (List UInt8) × (List UInt8)) :=
  (strings_TrimSuffix e902.1 ([10])).sure.bind fun r998 => if List.length r998 + List.length ([10]) ≤ 1000000000 then ((strings_Builder_WriteString o1_0_990 o1_1_990 (r998 ++ ([10]))).sure.bind fun r1000 => self_insert_At_r3 r1000.2.1 r1000.2.2 e902.2) else R.stuck
def insert_At_r3 (e469 : List UInt8 × List UInt8) : List (List UInt8 × List UInt8) → Bool → List UInt8 → List UInt8 → R (Bool × (List UInt8) × (List UInt8))
  | [], o1_0_945, o1_1_945, o6_0_945 => R.ok (o1_0_945, o1_1_945, o6_0_945)
  | e902 :: k, o1_0_945, o1_1_945, o6_0_945 => if e902.1 = ([10]) then (insert_At_j4 (insert_At_r3 e469 k) e902 o1_0_945 o1_1_945) else ((insert_blanks e469.1).sure.bind fun r1013 => (strings_Builder_WriteString o1_0_945 o1_1_945 r1013).sure.bind fun r1014 => insert_At_j4 (insert_At_r3 e469 k) e902 r1014.2.1 r1014.2.2)
def insert_At_r1 (x1 : List UInt8) (x2 : List UInt8) : List (List UInt8 × List UInt8) → Bool → List UInt8 → List UInt8 → R (Bool × (List UInt8) × (List UInt8))
  | [], o1_0_676, o1_1_676, o4_0_676 => R.ok (o1_0_676, o1_1_676, o4_0_676)
  | e469 :: k, o1_0_676, o1_1_676, o4_0_676 => (strings_Contains e469.1 ((([64, 64, 112, 114, 111, 116, 111, 99, 95, 105, 110, 115, 101, 114, 116, 105, 111, 110, 95, 112, 111, 105, 110, 116, 40]) ++ x1) ++ ([41]))).sure.bind fun r896 => if r896 = true then ((strings_Lines x2).sure.bind fun r901 => if List.length r901 ≤ 4000000000 then ((insert_At_r3 e469 (linesP r901) o1_0_676 o1_1_676 r901).bind fun (o1_0p1021, o1_1p1021, o6_0p1021) => insert_At_j2 (insert_At_r1 x1 x2 k) e469 o1_0p1021 o1_1p1021) else R.stuck) else (insert_At_j2 (insert_At_r1 x1 x2 k) e469 o1_0_676 o1_1_676)
def insert_At (x0 : List UInt8) (x1 : List UInt8) (x2 : List UInt8) : R ((List UInt8) × Bool) :=
  if List.length ([64, 64, 112, 114, 111, 116, 111, 99, 95, 105, 110, 115, 101, 114, 116, 105, 111, 110, 95, 112, 111, 105, 110, 116, 40]) + List.length x1 ≤ 1000000000 then (if List.length (([64, 64, 112, 114, 111, 116, 111, 99, 95, 105, 110, 115, 101, 114, 116, 105, 111, 110, 95, 112, 111, 105, 110, 116, 40]) ++ x1) + List.length ([41]) ≤ 1000000000 then ((strings_Lines x0).sure.bind fun r33 => (slices_Collect_string r33).sure.bind fun r34 => (slices_ContainsFunc_string ((([64, 64, 112, 114, 111, 116, 111, 99, 95, 105, 110, 115, 101, 114, 116, 105, 111, 110, 95, 112, 111, 105, 110, 116, 40]) ++ x1) ++ ([41])) r34.1).sure.bind fun r35 => if r35 = true then ((strings_Lines x0).sure.bind fun r468 => if List.length r468 ≤ 4000000000 then ((insert_At_r1 x1 x2 (linesP r468) false [] r468).bind fun (o1_0p1028, o1_1p1028, o4_0p1028) => insert_At_j0 o1_0p1028 o1_1p1028 o4_0p1028) else R.stuck) else (R.ok ([], false))) else R.stuck) else R.stuck
theorem insert_At_call {h : H} {x0 : List UInt8} {x1 : List UInt8} {x2 : List UInt8} {Q : Out → H → Prop} {KK : ((List UInt8) × Bool) → Prop} {X : V → Prop} (hq : (insert_At x0 x1 x2).post KK X) (hK : ∀ r, KK r → Q (.ret (.tup [.str r.1, .bool r.2])) h) (hX : ∀ v, X v → V.Cl 0 v ∧ Q (.panic v) h) : CA qprim 7 [.str x0, .str x1, .str x2] h Q := by
  refine acalln hp Tryd.func7 rfl (by kernel_rfl) (n := 42) rfl (rs := [.tmp 6, .tmp 7]) rfl [0, 1, 2, 5, 6, 7, 8, 9, 10, 11, 20, 22, 23, 26, 28, 29, 31] [] true (by simp) ?_
  unfold insert_At at hq
  simp only [initEnv, List.map_cons, List.map_nil, List.getD_cons_zero, List.getD_cons_succ, List.getD_nil, V.demote]
  rw [wp_seq]
  refine wp_region_i (by rfl) ?_
  simp only [go_sem, ↓evs_eq, Nat.reduceAdd, ↓reduceIte, Nat.reduceEqDiff, Nat.reduceBEq, Nat.reduceBNe, Nat.reduceLT, Int.reduceToNat, Int.reduceEq, Int.reduceLT, Int.reduceLE, reduceCtorEq, Nat.reduceMul, Nat.reduceLeDiff]
  rw [wp_seq]
  refine wp_region_i (by rfl) ?_
  simp only [go_sem, ↓evs_eq, Nat.reduceAdd, ↓reduceIte, Nat.reduceEqDiff, Nat.reduceBEq, Nat.reduceBNe, Nat.reduceLT, Int.reduceToNat, Int.reduceEq, Int.reduceLT, Int.reduceLE, reduceCtorEq, Nat.reduceMul, Nat.reduceLeDiff]
  rw [wp_seq]
  refine wp_region_i (by rfl) ?_
  obtain ⟨g3, hq⟩ := R.guard hq
  obtain ⟨g4, hq⟩ := R.guard hq
  simp only [go_sem, ↓evs_eq, Nat.reduceAdd, ↓reduceIte, Nat.reduceEqDiff, Nat.reduceBEq, Nat.reduceBNe, Nat.reduceLT, Int.reduceToNat, Int.reduceEq, Int.reduceLT, Int.reduceLE, reduceCtorEq, Nat.reduceMul, Nat.reduceLeDiff]
  repeat (with_reducible refine And.intro (by first | omega | assumption) ?_)
  rw [wp_seq]
  rw [wp_seq]
  refine wp_region_i (by rfl) ?_
  simp only [go_sem, ↓evs_eq, Nat.reduceAdd, ↓reduceIte, Nat.reduceEqDiff, Nat.reduceBEq, Nat.reduceBNe, Nat.reduceLT, Int.reduceToNat, Int.reduceEq, Int.reduceLT, Int.reduceLE, reduceCtorEq, Nat.reduceMul, Nat.reduceLeDiff]
  obtain ⟨K1035, hK1036, hq⟩ := R.post_cut_sure hq
  refine strings_Lines_call (x0 := x0) hq (fun r33 hq => ?_) (fun v hv => hv.elim)
  replace hq := hK1036 _ hq
  simp only [go_sem, ↓evs_eq, Nat.reduceAdd, ↓reduceIte, Nat.reduceEqDiff, Nat.reduceBEq, Nat.reduceBNe, Nat.reduceLT, Int.reduceToNat, Int.reduceEq, Int.reduceLT, Int.reduceLE, reduceCtorEq, Nat.reduceMul, Nat.reduceLeDiff]
  obtain ⟨K1033, hK1034, hq⟩ := R.post_cut_sure hq
  refine slices_Collect_string_call (o0_0 := r33) (id0 := (h.length + 3)) (by first | (simp only [go_sem, ↓evs_eq, Nat.reduceAdd, ↓reduceIte, Nat.reduceEqDiff, Nat.reduceBEq, Nat.reduceBNe, Nat.reduceLT, Int.reduceToNat, Int.reduceEq, Int.reduceLT, Int.reduceLE, reduceCtorEq, Nat.reduceMul, Nat.reduceLeDiff] <;> rfl) | assumption | rfl) hq (fun r34 hq => ?_) (fun v hv => hv.elim)
  replace hq := hK1034 _ hq
  simp only [go_sem, ↓evs_eq, Nat.reduceAdd, ↓reduceIte, Nat.reduceEqDiff, Nat.reduceBEq, Nat.reduceBNe, Nat.reduceLT, Int.reduceToNat, Int.reduceEq, Int.reduceLT, Int.reduceLE, reduceCtorEq, Nat.reduceMul, Nat.reduceLeDiff]
  obtain ⟨K1031, hK1032, hq⟩ := R.post_cut_sure hq
  refine slices_ContainsFunc_string_call (o0_0 := ((([64, 64, 112, 114, 111, 116, 111, 99, 95, 105, 110, 115, 101, 114, 116, 105, 111, 110, 95, 112, 111, 105, 110, 116, 40]) ++ x1) ++ ([41]))) (x0 := r34.1) (id0 := (h.length + 2)) (by first | (simp only [go_sem, ↓evs_eq, Nat.reduceAdd, ↓reduceIte, Nat.reduceEqDiff, Nat.reduceBEq, Nat.reduceBNe, Nat.reduceLT, Int.reduceToNat, Int.reduceEq, Int.reduceLT, Int.reduceLE, reduceCtorEq, Nat.reduceMul, Nat.reduceLeDiff] <;> rfl) | assumption | rfl) hq (fun r35 hq => ?_) (fun v hv => hv.elim)
  replace hq := hK1032 _ hq
  simp only [go_sem, ↓evs_eq, Nat.reduceAdd, ↓reduceIte, Nat.reduceEqDiff, Nat.reduceBEq, Nat.reduceBNe, Nat.reduceLT, Int.reduceToNat, Int.reduceEq, Int.reduceLT, Int.reduceLE, reduceCtorEq, Nat.reduceMul, Nat.reduceLeDiff]
  rw [wp_cond]
  simp only [go_sem, ↓evs_eq, Nat.reduceAdd, ↓reduceIte, Nat.reduceEqDiff, Nat.reduceBEq, Nat.reduceBNe, Nat.reduceLT, Int.reduceToNat, Int.reduceEq, Int.reduceLT, Int.reduceLE, reduceCtorEq, Nat.reduceMul, Nat.reduceLeDiff]
  by_cases hc36 : r35 = true
  · replace hq := (R.post_if hq).1 hc36
    refine condK_f (congrArg (fun b => V.bool (!b)) (hc36)) ?_
    try simp only [wp_skip, RC, roundK_x, roundK_g, roundK_r]
    refine Wk.same ?_
    try simp only [RC, roundK_x, roundK_g, roundK_r]
    refine seq_gen (acall_mono hp) (σ := V × V × V × V × V × V × Bool × (List UInt8) × (List UInt8)) (fun s => [(0, .str x0), (1, .str x1), (2, .str x2), (5, .ref h.length 0), (6, .str []), (7, .bool false), (8, .ref (h.length + 1) 0), (9, .ref (h.length + 2) 0), (10, s.1), (11, s.2.1), (20, .bool (!r35)), (22, s.2.2.1), (23, .top), (26, s.2.2.2.1), (28, s.2.2.2.2.1), (29, .top), (31, s.2.2.2.2.2.1)]) (fun s => h ++ [.cells 9 [.str x2], .cells 38 [selfp (h.length + 1) s.2.2.2.2.2.2.1, .own 5 1 (List.map byteV s.2.2.2.2.2.2.2.1)], .cells 9 [.str ((([64, 64, 112, 114, 111, 116, 111, 99, 95, 105, 110, 115, 101, 114, 116, 105, 111, 110, 95, 112, 111, 105, 110, 116, 40]) ++ x1) ++ ([41]))], .cells 9 [.str r34.2], .cells 9 [.str s.2.2.2.2.2.2.2.2]]) (fun s => (insert_At_j0 s.2.2.2.2.2.2.1 s.2.2.2.2.2.2.2.1 s.2.2.2.2.2.2.2.2).post KK X) (fun s hq => ?_) (fun N hN464 => ?_)
    · obtain ⟨y10_457, y11_457, y22_457, y26_457, y28_457, y31_457, o1_0_457, o1_1_457, o4_0_457⟩ := s
      try dsimp only at hq ⊢
      unfold insert_At_j0 at hq
      rw [wp_seq]
      refine wp_region_i (by rfl) ?_
      simp only [go_sem, ↓evs_eq, Nat.reduceAdd, ↓reduceIte, Nat.reduceEqDiff, Nat.reduceBEq, Nat.reduceBNe, Nat.reduceLT, Int.reduceToNat, Int.reduceEq, Int.reduceLT, Int.reduceLE, reduceCtorEq, Nat.reduceMul, Nat.reduceLeDiff]
      obtain ⟨K462, hK463, hq⟩ := R.post_cut_sure hq
      refine strings_Builder_String_call (o0_0 := o1_0_457) (o0_1 := o1_1_457) (id0 := (h.length + 1)) (by first | (simp only [go_sem, ↓evs_eq, Nat.reduceAdd, ↓reduceIte, Nat.reduceEqDiff, Nat.reduceBEq, Nat.reduceBNe, Nat.reduceLT, Int.reduceToNat, Int.reduceEq, Int.reduceLT, Int.reduceLE, reduceCtorEq, Nat.reduceMul, Nat.reduceLeDiff] <;> rfl) | assumption | rfl) hq (fun r461 hq => ?_) (fun v hv => hv.elim)
      replace hq := hK463 _ hq
      simp only [go_sem, ↓evs_eq, Nat.reduceAdd, ↓reduceIte, Nat.reduceEqDiff, Nat.reduceBEq, Nat.reduceBNe, Nat.reduceLT, Int.reduceToNat, Int.reduceEq, Int.reduceLT, Int.reduceLE, reduceCtorEq, Nat.reduceMul, Nat.reduceLeDiff]
      rw [wp_ret]
      simp only [retQ, results, resultAll, resultOne, Nat.zero_add, scopeQ, go_sem, ↓evs_eq, Nat.reduceAdd, ↓reduceIte, Nat.reduceEqDiff, Nat.reduceBEq, Nat.reduceBNe, Nat.reduceLT, Int.reduceToNat, Int.reduceEq, Int.reduceLT, Int.reduceLE, reduceCtorEq, Nat.reduceMul, Nat.reduceLeDiff]
      refine ⟨_, (.refl _), ?_⟩
      refine leave_ok rfl (.tup _ (cl_cons (.str _) (cl_cons (.bool _) cl_nil))) ?_
      exact hK _ hq
    · rw [wp_seq]
      refine wp_region_i (by rfl) ?_
      simp only [go_sem, ↓evs_eq, Nat.reduceAdd, ↓reduceIte, Nat.reduceEqDiff, Nat.reduceBEq, Nat.reduceBNe, Nat.reduceLT, Int.reduceToNat, Int.reduceEq, Int.reduceLT, Int.reduceLE, reduceCtorEq, Nat.reduceMul, Nat.reduceLeDiff]
      obtain ⟨K1029, hK1030, hq⟩ := R.post_cut_sure hq
      refine strings_Lines_call (x0 := x0) hq (fun r468 hq => ?_) (fun v hv => hv.elim)
      replace hq := hK1030 _ hq
      simp only [go_sem, ↓evs_eq, Nat.reduceAdd, ↓reduceIte, Nat.reduceEqDiff, Nat.reduceBEq, Nat.reduceBNe, Nat.reduceLT, Int.reduceToNat, Int.reduceEq, Int.reduceLT, Int.reduceLE, reduceCtorEq, Nat.reduceMul, Nat.reduceLeDiff]
      rw [wp_block]
      obtain ⟨g1027, hq⟩ := R.guard hq
      refine range_in ?_
      refine Wk.same ?_
      obtain ⟨K882, hK883, hq⟩ := R.post_cut hq
      refine range_go 28 [.ref (h.length + 4) 0] (by simp only [go_sem, ↓evs_eq, Nat.reduceAdd, ↓reduceIte, Nat.reduceEqDiff, Nat.reduceBEq, Nat.reduceBNe, Nat.reduceLT, Int.reduceToNat, Int.reduceEq, Int.reduceLT, Int.reduceLE, reduceCtorEq, Nat.reduceMul, Nat.reduceLeDiff]) (by rfl) (lines_it (id := (h.length + 4)) (s := r468) g1027 (by first | (simp only [go_sem, ↓evs_eq, Nat.reduceAdd, ↓reduceIte, Nat.reduceEqDiff, Nat.reduceBEq, Nat.reduceBNe, Nat.reduceLT, Int.reduceToNat, Int.reduceEq, Int.reduceLT, Int.reduceLE, reduceCtorEq, Nat.reduceMul, Nat.reduceLeDiff] <;> rfl) | rfl) ⟨_, _, rfl, rfl, ?_⟩)
      refine rounds_gen (ps := [23]) (α := List UInt8 × List UInt8) (σ := Bool × (List UInt8) × (List UInt8)) (fun e469 => [((h.length + 4), .cells 9 [.str e469.2])]) (fun e469 => [.str e469.1]) (fun s => h ++ [.cells 9 [.str x2], .cells 38 [selfp (h.length + 1) s.1, .own 5 1 (List.map byteV s.2.1)], .cells 9 [.str ((([64, 64, 112, 114, 111, 116, 111, 99, 95, 105, 110, 115, 101, 114, 116, 105, 111, 110, 95, 112, 111, 105, 110, 116, 40]) ++ x1) ++ ([41]))], .cells 9 [.str r34.2], .cells 9 [.str s.2.2]]) (fun xs_ s => (insert_At_r1 x1 x2 xs_ s.1 s.2.1 s.2.2).post K882 X) (fun e469 k1026 s hq N hN884 => ⟨(by rfl), ?_⟩) (fun s hq => ?_) (linesP r468) (false, [], r468) hq
      · obtain ⟨o1_0_676, o1_1_676, o4_0_676⟩ := s
        try dsimp only at hq ⊢
        rw [insert_At_r1] at hq
        simp only [go_sem, ↓evs_eq, Nat.reduceAdd, ↓reduceIte, Nat.reduceEqDiff, Nat.reduceBEq, Nat.reduceBNe, Nat.reduceLT, Int.reduceToNat, Int.reduceEq, Int.reduceLT, Int.reduceLE, reduceCtorEq, Nat.reduceMul, Nat.reduceLeDiff]
        refine wp_region_i (by rfl) ?_
        simp only [go_sem, ↓evs_eq, Nat.reduceAdd, ↓reduceIte, Nat.reduceEqDiff, Nat.reduceBEq, Nat.reduceBNe, Nat.reduceLT, Int.reduceToNat, Int.reduceEq, Int.reduceLT, Int.reduceLE, reduceCtorEq, Nat.reduceMul, Nat.reduceLeDiff]
        rw [wp_block]
        refine seq_gen (acall_mono hp) (σ := V × V × V × V × V × V × V × V × V × V × V × V × V × V × Bool × (List UInt8)) (fun s => [(0, s.1), (1, s.2.1), (2, s.2.2.1), (5, s.2.2.2.1), (6, s.2.2.2.2.1), (7, s.2.2.2.2.2.1), (8, .ref (h.length + 1) 0), (9, s.2.2.2.2.2.2.1), (10, .ref (h.length + 5) 0), (11, s.2.2.2.2.2.2.2.1), (20, s.2.2.2.2.2.2.2.2.1), (22, s.2.2.2.2.2.2.2.2.2.1), (23, s.2.2.2.2.2.2.2.2.2.2.1), (26, s.2.2.2.2.2.2.2.2.2.2.2.1), (28, s.2.2.2.2.2.2.2.2.2.2.2.2.1), (29, .top), (31, s.2.2.2.2.2.2.2.2.2.2.2.2.2.1)]) (fun s => h ++ [.cells 9 [.str x2], .cells 38 [selfp (h.length + 1) s.2.2.2.2.2.2.2.2.2.2.2.2.2.2.1, .own 5 1 (List.map byteV s.2.2.2.2.2.2.2.2.2.2.2.2.2.2.2)], .cells 9 [.str ((([64, 64, 112, 114, 111, 116, 111, 99, 95, 105, 110, 115, 101, 114, 116, 105, 111, 110, 95, 112, 111, 105, 110, 116, 40]) ++ x1) ++ ([41]))], .cells 9 [.str r34.2], .cells 9 [.str e469.2], .cells 9 [.str e469.1]]) (fun s => (insert_At_j2 (insert_At_r1 x1 x2 k1026) e469 s.2.2.2.2.2.2.2.2.2.2.2.2.2.2.1 s.2.2.2.2.2.2.2.2.2.2.2.2.2.2.2).post K882 X) (fun s hq => ?_) (fun N hN892 => ?_)
        · obtain ⟨y0_885, y1_885, y2_885, y5_885, y6_885, y7_885, y9_885, y11_885, y20_885, y22_885, y23_885, y26_885, y28_885, y31_885, o1_0_885, o1_1_885⟩ := s
          try dsimp only at hq ⊢
          unfold insert_At_j2 at hq
          refine wp_region_i (by rfl) ?_
          simp only [go_sem, ↓evs_eq, Nat.reduceAdd, ↓reduceIte, Nat.reduceEqDiff, Nat.reduceBEq, Nat.reduceBNe, Nat.reduceLT, Int.reduceToNat, Int.reduceEq, Int.reduceLT, Int.reduceLE, reduceCtorEq, Nat.reduceMul, Nat.reduceLeDiff]
          obtain ⟨K890, hK891, hq⟩ := R.post_cut_sure hq
          refine strings_Builder_WriteString_call (o0_0 := o1_0_885) (o0_1 := o1_1_885) (x1 := e469.1) (id0 := (h.length + 1)) (by first | (simp only [go_sem, ↓evs_eq, Nat.reduceAdd, ↓reduceIte, Nat.reduceEqDiff, Nat.reduceBEq, Nat.reduceBNe, Nat.reduceLT, Int.reduceToNat, Int.reduceEq, Int.reduceLT, Int.reduceLE, reduceCtorEq, Nat.reduceMul, Nat.reduceLeDiff] <;> rfl) | assumption | rfl) hq (fun r889 hq => ?_) (fun v hv => hv.elim)
          replace hq := hK891 _ hq
          simp only [go_sem, ↓evs_eq, Nat.reduceAdd, ↓reduceIte, Nat.reduceEqDiff, Nat.reduceBEq, Nat.reduceBNe, Nat.reduceLT, Int.reduceToNat, Int.reduceEq, Int.reduceLT, Int.reduceLE, reduceCtorEq, Nat.reduceMul, Nat.reduceLeDiff]
          refine Wk.le (EnvLe.cons (.refl _) (EnvLe.cons (.refl _) (EnvLe.cons (.refl _) (EnvLe.cons (.refl _) (EnvLe.cons (.refl _) (EnvLe.cons (.refl _) (EnvLe.cons (.top _) (EnvLe.cons (.refl _) (EnvLe.cons (.top _) (EnvLe.cons (.refl _) (EnvLe.cons (.refl _) (EnvLe.cons (.refl _) (EnvLe.cons (.refl _) (EnvLe.cons (.refl _) (EnvLe.cons (.refl _) (EnvLe.cons (.refl _) (EnvLe.cons (.refl _) EnvLe.nil))))))))))))))))) ?_
          try simp only [RC, roundK_x, roundK_g, roundK_r]
          refine round_end ?_
          refine Wk.drop [.cells 9 [.str x2], .cells 38 [selfp (h.length + 1) r889.2.1, .own 5 1 (List.map byteV r889.2.2)], .cells 9 [.str ((([64, 64, 112, 114, 111, 116, 111, 99, 95, 105, 110, 115, 101, 114, 116, 105, 111, 110, 95, 112, 111, 105, 110, 116, 40]) ++ x1) ++ ([41]))], .cells 9 [.str r34.2], .cells 9 [.str e469.2]] _ [.cells 9 [.str e469.1]] rfl rfl (EnvLe.cons (.top _) (EnvLe.cons (.top _) (EnvLe.cons (.top _) (EnvLe.cons (.top _) (EnvLe.cons (.top _) (EnvLe.cons (.top _) (EnvLe.cons (.refl _) (EnvLe.cons (.top _) (EnvLe.cons (.refl _) (EnvLe.cons (.top _) (EnvLe.cons (.top _) (EnvLe.cons (.top _) (EnvLe.cons (.top _) (EnvLe.cons (.top _) (EnvLe.cons (.top _) (EnvLe.cons (.refl _) (EnvLe.cons (.top _) EnvLe.nil))))))))))))))))) (EnvCl.cons .top (EnvCl.cons .top (EnvCl.cons .top (EnvCl.cons .top (EnvCl.cons .top (EnvCl.cons .top (EnvCl.cons .top (EnvCl.cons .top (EnvCl.cons .top (EnvCl.cons .top (EnvCl.cons .top (EnvCl.cons .top (EnvCl.cons .top (EnvCl.cons .top (EnvCl.cons .top (EnvCl.cons .top (EnvCl.cons .top (EnvCl.nil _)))))))))))))))))) (objcl_cons (cl_cons (.str _) cl_nil) (objcl_cons (cl_cons (selfp_cl (by first | omega | (simp only [List.length_append, List.length_cons, List.length_nil, List.length_set]; omega))) (cl_cons (.own _ _ _ (cl_map (fun x => cl_byte x))) cl_nil)) (objcl_cons (cl_cons (.str _) cl_nil) (objcl_cons (cl_cons (.str _) cl_nil) (objcl_cons (cl_cons (.str _) cl_nil) objcl_nil))))) ?_
          exact ⟨(fun i hi => by simp only [List.mem_cons, List.not_mem_nil, or_false] at hi; rcases hi with rfl <;> simp only [go_sem, ↓evs_eq, Nat.reduceAdd, ↓reduceIte, Nat.reduceEqDiff, Nat.reduceBEq, Nat.reduceBNe, Nat.reduceLT, Int.reduceToNat, Int.reduceEq, Int.reduceLT, Int.reduceLE, reduceCtorEq, Nat.reduceMul, Nat.reduceLeDiff]), hN884 (r889.2.1, r889.2.2, e469.2) hq⟩
        · rw [wp_seq]
          refine wp_region_i (by rfl) ?_
          simp only [go_sem, ↓evs_eq, Nat.reduceAdd, ↓reduceIte, Nat.reduceEqDiff, Nat.reduceBEq, Nat.reduceBNe, Nat.reduceLT, Int.reduceToNat, Int.reduceEq, Int.reduceLT, Int.reduceLE, reduceCtorEq, Nat.reduceMul, Nat.reduceLeDiff]
          obtain ⟨K1024, hK1025, hq⟩ := R.post_cut_sure hq
          refine strings_Contains_call (x0 := e469.1) (x1 := ((([64, 64, 112, 114, 111, 116, 111, 99, 95, 105, 110, 115, 101, 114, 116, 105, 111, 110, 95, 112, 111, 105, 110, 116, 40]) ++ x1) ++ ([41]))) hq (fun r896 hq => ?_) (fun v hv => hv.elim)
          replace hq := hK1025 _ hq
          simp only [go_sem, ↓evs_eq, Nat.reduceAdd, ↓reduceIte, Nat.reduceEqDiff, Nat.reduceBEq, Nat.reduceBNe, Nat.reduceLT, Int.reduceToNat, Int.reduceEq, Int.reduceLT, Int.reduceLE, reduceCtorEq, Nat.reduceMul, Nat.reduceLeDiff]
          rw [wp_cond]
          simp only [go_sem, ↓evs_eq, Nat.reduceAdd, ↓reduceIte, Nat.reduceEqDiff, Nat.reduceBEq, Nat.reduceBNe, Nat.reduceLT, Int.reduceToNat, Int.reduceEq, Int.reduceLT, Int.reduceLE, reduceCtorEq, Nat.reduceMul, Nat.reduceLeDiff]
          by_cases hc897 : r896 = true
          · replace hq := (R.post_if hq).1 hc897
            refine condK_t (congrArg V.bool (hc897)) ?_
            rw [wp_seq]
            refine wp_region_i (by rfl) ?_
            simp only [go_sem, ↓evs_eq, Nat.reduceAdd, ↓reduceIte, Nat.reduceEqDiff, Nat.reduceBEq, Nat.reduceBNe, Nat.reduceLT, Int.reduceToNat, Int.reduceEq, Int.reduceLT, Int.reduceLE, reduceCtorEq, Nat.reduceMul, Nat.reduceLeDiff]
            obtain ⟨K1022, hK1023, hq⟩ := R.post_cut_sure hq
            refine strings_Lines_call (x0 := x2) hq (fun r901 hq => ?_) (fun v hv => hv.elim)
            replace hq := hK1023 _ hq
            simp only [go_sem, ↓evs_eq, Nat.reduceAdd, ↓reduceIte, Nat.reduceEqDiff, Nat.reduceBEq, Nat.reduceBNe, Nat.reduceLT, Int.reduceToNat, Int.reduceEq, Int.reduceLT, Int.reduceLE, reduceCtorEq, Nat.reduceMul, Nat.reduceLeDiff]
            rw [wp_block]
            obtain ⟨g1020, hq⟩ := R.guard hq
            refine range_in ?_
            refine Wk.same ?_
            obtain ⟨K987, hK988, hq⟩ := R.post_cut hq
            refine range_go 28 [.ref (h.length + 6) 0] (by simp only [go_sem, ↓evs_eq, Nat.reduceAdd, ↓reduceIte, Nat.reduceEqDiff, Nat.reduceBEq, Nat.reduceBNe, Nat.reduceLT, Int.reduceToNat, Int.reduceEq, Int.reduceLT, Int.reduceLE, reduceCtorEq, Nat.reduceMul, Nat.reduceLeDiff]) (by rfl) (lines_it (id := (h.length + 6)) (s := r901) g1020 (by first | (simp only [go_sem, ↓evs_eq, Nat.reduceAdd, ↓reduceIte, Nat.reduceEqDiff, Nat.reduceBEq, Nat.reduceBNe, Nat.reduceLT, Int.reduceToNat, Int.reduceEq, Int.reduceLT, Int.reduceLE, reduceCtorEq, Nat.reduceMul, Nat.reduceLeDiff] <;> rfl) | rfl) ⟨_, _, rfl, rfl, ?_⟩)
            refine rounds_gen (ps := [29]) (α := List UInt8 × List UInt8) (σ := Bool × (List UInt8) × (List UInt8)) (fun e902 => [((h.length + 6), .cells 9 [.str e902.2])]) (fun e902 => [.str e902.1]) (fun s => h ++ [.cells 9 [.str x2], .cells 38 [selfp (h.length + 1) s.1, .own 5 1 (List.map byteV s.2.1)], .cells 9 [.str ((([64, 64, 112, 114, 111, 116, 111, 99, 95, 105, 110, 115, 101, 114, 116, 105, 111, 110, 95, 112, 111, 105, 110, 116, 40]) ++ x1) ++ ([41]))], .cells 9 [.str r34.2], .cells 9 [.str e469.2], .cells 9 [.str e469.1], .cells 9 [.str s.2.2]]) (fun xs_ s => (insert_At_r3 e469 xs_ s.1 s.2.1 s.2.2).post K987 X) (fun e902 k1019 s hq N hN989 => ⟨(by rfl), ?_⟩) (fun s hq => ?_) (linesP r901) (o1_0_676, o1_1_676, r901) hq
            · obtain ⟨o1_0_945, o1_1_945, o6_0_945⟩ := s
              try dsimp only at hq ⊢
              rw [insert_At_r3] at hq
              simp only [go_sem, ↓evs_eq, Nat.reduceAdd, ↓reduceIte, Nat.reduceEqDiff, Nat.reduceBEq, Nat.reduceBNe, Nat.reduceLT, Int.reduceToNat, Int.reduceEq, Int.reduceLT, Int.reduceLE, reduceCtorEq, Nat.reduceMul, Nat.reduceLeDiff]
              refine wp_region_i (by rfl) ?_
              simp only [go_sem, ↓evs_eq, Nat.reduceAdd, ↓reduceIte, Nat.reduceEqDiff, Nat.reduceBEq, Nat.reduceBNe, Nat.reduceLT, Int.reduceToNat, Int.reduceEq, Int.reduceLT, Int.reduceLE, reduceCtorEq, Nat.reduceMul, Nat.reduceLeDiff]
              rw [wp_block]
              refine seq_gen (acall_mono hp) (σ := V × Bool × (List UInt8)) (fun s => [(0, .str x0), (1, .str x1), (2, .str x2), (5, .ref h.length 0), (6, .str []), (7, .bool false), (8, .ref (h.length + 1) 0), (9, .ref (h.length + 2) 0), (10, .ref (h.length + 5) 0), (11, .str e902.1), (20, .bool (!r35)), (22, .func (.func 28) [] [.ref (h.length + 4) 0]), (23, .str e469.1), (26, .bool r896), (28, .func (.func 28) [] [.ref (h.length + 6) 0]), (29, .str e902.1), (31, s.1)]) (fun s => h ++ [.cells 9 [.str x2], .cells 38 [selfp (h.length + 1) s.2.1, .own 5 1 (List.map byteV s.2.2)], .cells 9 [.str ((([64, 64, 112, 114, 111, 116, 111, 99, 95, 105, 110, 115, 101, 114, 116, 105, 111, 110, 95, 112, 111, 105, 110, 116, 40]) ++ x1) ++ ([41]))], .cells 9 [.str r34.2], .cells 9 [.str e469.2], .cells 9 [.str e469.1], .cells 9 [.str e902.2]]) (fun s => (insert_At_j4 (insert_At_r3 e469 k1019) e902 s.2.1 s.2.2).post K987 X) (fun s hq => ?_) (fun N hN1005 => ?_)
              · obtain ⟨y31_990, o1_0_990, o1_1_990⟩ := s
                try dsimp only at hq ⊢
                unfold insert_At_j4 at hq
                refine wp_region_i (by rfl) ?_
                simp only [go_sem, ↓evs_eq, Nat.reduceAdd, ↓reduceIte, Nat.reduceEqDiff, Nat.reduceBEq, Nat.reduceBNe, Nat.reduceLT, Int.reduceToNat, Int.reduceEq, Int.reduceLT, Int.reduceLE, reduceCtorEq, Nat.reduceMul, Nat.reduceLeDiff]
                obtain ⟨K1003, hK1004, hq⟩ := R.post_cut_sure hq
                refine strings_TrimSuffix_call (x0 := e902.1) (x1 := [10]) hq (fun r998 hq => ?_) (fun v hv => hv.elim)
                replace hq := hK1004 _ hq
                obtain ⟨g999, hq⟩ := R.guard hq
                simp only [go_sem, ↓evs_eq, Nat.reduceAdd, ↓reduceIte, Nat.reduceEqDiff, Nat.reduceBEq, Nat.reduceBNe, Nat.reduceLT, Int.reduceToNat, Int.reduceEq, Int.reduceLT, Int.reduceLE, reduceCtorEq, Nat.reduceMul, Nat.reduceLeDiff]
                repeat (with_reducible refine And.intro (by first | omega | assumption) ?_)
                obtain ⟨K1001, hK1002, hq⟩ := R.post_cut_sure hq
                refine strings_Builder_WriteString_call (o0_0 := o1_0_990) (o0_1 := o1_1_990) (x1 := (r998 ++ ([10]))) (id0 := (h.length + 1)) (by first | (simp only [go_sem, ↓evs_eq, Nat.reduceAdd, ↓reduceIte, Nat.reduceEqDiff, Nat.reduceBEq, Nat.reduceBNe, Nat.reduceLT, Int.reduceToNat, Int.reduceEq, Int.reduceLT, Int.reduceLE, reduceCtorEq, Nat.reduceMul, Nat.reduceLeDiff] <;> rfl) | assumption | rfl) hq (fun r1000 hq => ?_) (fun v hv => hv.elim)
                replace hq := hK1002 _ hq
                simp only [go_sem, ↓evs_eq, Nat.reduceAdd, ↓reduceIte, Nat.reduceEqDiff, Nat.reduceBEq, Nat.reduceBNe, Nat.reduceLT, Int.reduceToNat, Int.reduceEq, Int.reduceLT, Int.reduceLE, reduceCtorEq, Nat.reduceMul, Nat.reduceLeDiff]
                refine Wk.le (EnvLe.cons (.top _) (EnvLe.cons (.top _) (EnvLe.cons (.top _) (EnvLe.cons (.top _) (EnvLe.cons (.top _) (EnvLe.cons (.top _) (EnvLe.cons (.top _) (EnvLe.cons (.top _) (EnvLe.cons (.top _) (EnvLe.cons (.top _) (EnvLe.cons (.top _) (EnvLe.cons (.top _) (EnvLe.cons (.top _) (EnvLe.cons (.top _) (EnvLe.cons (.top _) (EnvLe.cons (.top _) (EnvLe.cons (.refl _) EnvLe.nil))))))))))))))))) ?_
                try simp only [RC, roundK_x, roundK_g, roundK_r]
                refine round_end ?_
                refine Wk.same ?_
                exact ⟨(fun i hi => by simp only [List.mem_cons, List.not_mem_nil, or_false] at hi; rcases hi with rfl <;> simp only [go_sem, ↓evs_eq, Nat.reduceAdd, ↓reduceIte, Nat.reduceEqDiff, Nat.reduceBEq, Nat.reduceBNe, Nat.reduceLT, Int.reduceToNat, Int.reduceEq, Int.reduceLT, Int.reduceLE, reduceCtorEq, Nat.reduceMul, Nat.reduceLeDiff]), hN989 (r1000.2.1, r1000.2.2, e902.2) hq⟩
              · rw [wp_seq]
                refine wp_region_i (by rfl) ?_
                simp only [go_sem, ↓evs_eq, Nat.reduceAdd, ↓reduceIte, Nat.reduceEqDiff, Nat.reduceBEq, Nat.reduceBNe, Nat.reduceLT, Int.reduceToNat, Int.reduceEq, Int.reduceLT, Int.reduceLE, reduceCtorEq, Nat.reduceMul, Nat.reduceLeDiff]
                rw [wp_cond]
                simp only [go_sem, ↓evs_eq, Nat.reduceAdd, ↓reduceIte, Nat.reduceEqDiff, Nat.reduceBEq, Nat.reduceBNe, Nat.reduceLT, Int.reduceToNat, Int.reduceEq, Int.reduceLT, Int.reduceLE, reduceCtorEq, Nat.reduceMul, Nat.reduceLeDiff]
                by_cases hc1006 : e902.1 = ([10])
                · replace hq := (R.post_if hq).1 hc1006
                  refine condK_f (congrArg (fun b => V.bool (!b)) (decide_eq_true hc1006)) ?_
                  try simp only [wp_skip, RC, roundK_x, roundK_g, roundK_r]
                  refine Wk.le (EnvLe.cons (.refl _) (EnvLe.cons (.refl _) (EnvLe.cons (.refl _) (EnvLe.cons (.refl _) (EnvLe.cons (.refl _) (EnvLe.cons (.refl _) (EnvLe.cons (.refl _) (EnvLe.cons (.refl _) (EnvLe.cons (.refl _) (EnvLe.cons (.refl _) (EnvLe.cons (.refl _) (EnvLe.cons (.refl _) (EnvLe.cons (.refl _) (EnvLe.cons (.refl _) (EnvLe.cons (.refl _) (EnvLe.cons (.refl _) (EnvLe.cons (.top _) EnvLe.nil))))))))))))))))) ?_
                  try simp only [RC, roundK_x, roundK_g, roundK_r]
                  exact hN1005 (_, o1_0_945, o1_1_945) hq
                · replace hq := (R.post_if hq).2 hc1006
                  refine condK_t (congrArg (fun b => V.bool (!b)) (decide_eq_false hc1006)) ?_
                  refine wp_region_i (by rfl) ?_
                  simp only [go_sem, ↓evs_eq, Nat.reduceAdd, ↓reduceIte, Nat.reduceEqDiff, Nat.reduceBEq, Nat.reduceBNe, Nat.reduceLT, Int.reduceToNat, Int.reduceEq, Int.reduceLT, Int.reduceLE, reduceCtorEq, Nat.reduceMul, Nat.reduceLeDiff]
                  obtain ⟨K1017, hK1018, hq⟩ := R.post_cut_sure hq
                  refine insert_blanks_call (x0 := e469.1) hq (fun r1013 hq => ?_) (fun v hv => hv.elim)
                  replace hq := hK1018 _ hq
                  simp only [go_sem, ↓evs_eq, Nat.reduceAdd, ↓reduceIte, Nat.reduceEqDiff, Nat.reduceBEq, Nat.reduceBNe, Nat.reduceLT, Int.reduceToNat, Int.reduceEq, Int.reduceLT, Int.reduceLE, reduceCtorEq, Nat.reduceMul, Nat.reduceLeDiff]
                  obtain ⟨K1015, hK1016, hq⟩ := R.post_cut_sure hq
                  refine strings_Builder_WriteString_call (o0_0 := o1_0_945) (o0_1 := o1_1_945) (x1 := r1013) (id0 := (h.length + 1)) (by first | (simp only [go_sem, ↓evs_eq, Nat.reduceAdd, ↓reduceIte, Nat.reduceEqDiff, Nat.reduceBEq, Nat.reduceBNe, Nat.reduceLT, Int.reduceToNat, Int.reduceEq, Int.reduceLT, Int.reduceLE, reduceCtorEq, Nat.reduceMul, Nat.reduceLeDiff] <;> rfl) | assumption | rfl) hq (fun r1014 hq => ?_) (fun v hv => hv.elim)
                  replace hq := hK1016 _ hq
                  simp only [go_sem, ↓evs_eq, Nat.reduceAdd, ↓reduceIte, Nat.reduceEqDiff, Nat.reduceBEq, Nat.reduceBNe, Nat.reduceLT, Int.reduceToNat, Int.reduceEq, Int.reduceLT, Int.reduceLE, reduceCtorEq, Nat.reduceMul, Nat.reduceLeDiff]
                  refine Wk.le (EnvLe.cons (.refl _) (EnvLe.cons (.refl _) (EnvLe.cons (.refl _) (EnvLe.cons (.refl _) (EnvLe.cons (.refl _) (EnvLe.cons (.refl _) (EnvLe.cons (.refl _) (EnvLe.cons (.refl _) (EnvLe.cons (.refl _) (EnvLe.cons (.refl _) (EnvLe.cons (.refl _) (EnvLe.cons (.refl _) (EnvLe.cons (.refl _) (EnvLe.cons (.refl _) (EnvLe.cons (.refl _) (EnvLe.cons (.refl _) (EnvLe.cons (.top _) EnvLe.nil))))))))))))))))) ?_
                  try simp only [RC, roundK_x, roundK_g, roundK_r]
                  exact hN1005 (_, r1014.2.1, r1014.2.2) hq
            · obtain ⟨o1_0_945, o1_1_945, o6_0_945⟩ := s
              try dsimp only at hq ⊢
              rw [insert_At_r3] at hq
              replace hq := hK988 _ hq
              try dsimp only at hq
              try simp only [RC, roundK_x, roundK_g, roundK_r]
              refine Wk.le (EnvLe.cons (.top _) (EnvLe.cons (.top _) (EnvLe.cons (.top _) (EnvLe.cons (.top _) (EnvLe.cons (.top _) (EnvLe.cons (.top _) (EnvLe.cons (.refl _) (EnvLe.cons (.top _) (EnvLe.cons (.refl _) (EnvLe.cons (.refl _) (EnvLe.cons (.top _) (EnvLe.cons (.top _) (EnvLe.cons (.top _) (EnvLe.cons (.top _) (EnvLe.cons (.top _) (EnvLe.cons (.refl _) (EnvLe.cons (.refl _) EnvLe.nil))))))))))))))))) ?_
              try simp only [RC, roundK_x, roundK_g, roundK_r]
              refine Wk.drop [.cells 9 [.str x2], .cells 38 [selfp (h.length + 1) o1_0_945, .own 5 1 (List.map byteV o1_1_945)], .cells 9 [.str ((([64, 64, 112, 114, 111, 116, 111, 99, 95, 105, 110, 115, 101, 114, 116, 105, 111, 110, 95, 112, 111, 105, 110, 116, 40]) ++ x1) ++ ([41]))], .cells 9 [.str r34.2], .cells 9 [.str e469.2], .cells 9 [.str e469.1]] _ [.cells 9 [.str o6_0_945]] rfl rfl (EnvLe.cons (.refl _) (EnvLe.cons (.refl _) (EnvLe.cons (.refl _) (EnvLe.cons (.refl _) (EnvLe.cons (.refl _) (EnvLe.cons (.refl _) (EnvLe.cons (.refl _) (EnvLe.cons (.refl _) (EnvLe.cons (.refl _) (EnvLe.cons (.refl _) (EnvLe.cons (.refl _) (EnvLe.cons (.refl _) (EnvLe.cons (.refl _) (EnvLe.cons (.refl _) (EnvLe.cons (.refl _) (EnvLe.cons (.refl _) (EnvLe.cons (.refl _) EnvLe.nil))))))))))))))))) (EnvCl.cons .top (EnvCl.cons .top (EnvCl.cons .top (EnvCl.cons .top (EnvCl.cons .top (EnvCl.cons .top (EnvCl.cons (.ref _ _ (by first | omega | (simp only [List.length_append, List.length_cons, List.length_nil, List.length_set]; omega))) (EnvCl.cons .top (EnvCl.cons (.ref _ _ (by first | omega | (simp only [List.length_append, List.length_cons, List.length_nil, List.length_set]; omega))) (EnvCl.cons .top (EnvCl.cons .top (EnvCl.cons .top (EnvCl.cons .top (EnvCl.cons .top (EnvCl.cons .top (EnvCl.cons .top (EnvCl.cons .top (EnvCl.nil _)))))))))))))))))) (objcl_cons (cl_cons (.str _) cl_nil) (objcl_cons (cl_cons (selfp_cl (by first | omega | (simp only [List.length_append, List.length_cons, List.length_nil, List.length_set]; omega))) (cl_cons (.own _ _ _ (cl_map (fun x => cl_byte x))) cl_nil)) (objcl_cons (cl_cons (.str _) cl_nil) (objcl_cons (cl_cons (.str _) cl_nil) (objcl_cons (cl_cons (.str _) cl_nil) (objcl_cons (cl_cons (.str _) cl_nil) objcl_nil)))))) ?_
              try simp only [RC, roundK_x, roundK_g, roundK_r]
              exact hN892 (_, _, _, _, _, _, _, _, _, _, _, _, _, _, o1_0_945, o1_1_945) hq
          · replace hq := (R.post_if hq).2 hc897
            replace hc897 := eq_false_of_ne_true hc897
            refine condK_f (congrArg V.bool (hc897)) ?_
            try simp only [wp_skip, RC, roundK_x, roundK_g, roundK_r]
            refine Wk.le (EnvLe.cons (.top _) (EnvLe.cons (.top _) (EnvLe.cons (.top _) (EnvLe.cons (.top _) (EnvLe.cons (.top _) (EnvLe.cons (.top _) (EnvLe.cons (.refl _) (EnvLe.cons (.top _) (EnvLe.cons (.refl _) (EnvLe.cons (.refl _) (EnvLe.cons (.top _) (EnvLe.cons (.top _) (EnvLe.cons (.top _) (EnvLe.cons (.top _) (EnvLe.cons (.refl _) (EnvLe.cons (.refl _) (EnvLe.cons (.refl _) EnvLe.nil))))))))))))))))) ?_
            try simp only [RC, roundK_x, roundK_g, roundK_r]
            exact hN892 (_, _, _, _, _, _, _, _, _, _, _, _, _, _, o1_0_676, o1_1_676) hq
      · obtain ⟨o1_0_676, o1_1_676, o4_0_676⟩ := s
        try dsimp only at hq ⊢
        rw [insert_At_r1] at hq
        replace hq := hK883 _ hq
        try dsimp only at hq
        try simp only [RC, roundK_x, roundK_g, roundK_r]
        refine Wk.le (EnvLe.cons (.refl _) (EnvLe.cons (.refl _) (EnvLe.cons (.refl _) (EnvLe.cons (.refl _) (EnvLe.cons (.refl _) (EnvLe.cons (.refl _) (EnvLe.cons (.refl _) (EnvLe.cons (.refl _) (EnvLe.cons (.refl _) (EnvLe.cons (.refl _) (EnvLe.cons (.refl _) (EnvLe.cons (.top _) (EnvLe.cons (.refl _) (EnvLe.cons (.refl _) (EnvLe.cons (.refl _) (EnvLe.cons (.refl _) (EnvLe.cons (.refl _) EnvLe.nil))))))))))))))))) ?_
        try simp only [RC, roundK_x, roundK_g, roundK_r]
        exact hN464 (_, _, _, _, _, _, o1_0_676, o1_1_676, o4_0_676) hq
  · replace hq := (R.post_if hq).2 hc36
    replace hc36 := eq_false_of_ne_true hc36
    refine condK_t (congrArg (fun b => V.bool (!b)) (hc36)) ?_
    rw [wp_seq]
    refine wp_region_i (by rfl) ?_
    simp only [go_sem, ↓evs_eq, Nat.reduceAdd, ↓reduceIte, Nat.reduceEqDiff, Nat.reduceBEq, Nat.reduceBNe, Nat.reduceLT, Int.reduceToNat, Int.reduceEq, Int.reduceLT, Int.reduceLE, reduceCtorEq, Nat.reduceMul, Nat.reduceLeDiff]
    rw [wp_ret]
    simp only [retQ, results, resultAll, resultOne, Nat.zero_add, scopeQ, go_sem, ↓evs_eq, Nat.reduceAdd, ↓reduceIte, Nat.reduceEqDiff, Nat.reduceBEq, Nat.reduceBNe, Nat.reduceLT, Int.reduceToNat, Int.reduceEq, Int.reduceLT, Int.reduceLE, reduceCtorEq, Nat.reduceMul, Nat.reduceLeDiff]
    refine ⟨_, (.refl _), ?_⟩
    refine leave_ok rfl (.tup _ (cl_cons (.str _) (cl_cons (.bool _) cl_nil))) ?_
    exact hK _ hq

def glossarylaw27_awake : R (Bool) :=
  (insert_At ([32, 32, 47, 47, 32, 64, 64, 112, 114, 111, 116, 111, 99, 95, 105, 110, 115, 101, 114, 116, 105, 111, 110, 95, 112, 111, 105, 110, 116, 40, 120, 41]) ([120]) ([97])).bind fun r4 => (if r4.2 = true then (R.ok (decide (r4.1 = ([32, 32, 97, 10, 32, 32, 47, 47, 32, 64, 64, 112, 114, 111, 116, 111, 99, 95, 105, 110, 115, 101, 114, 116, 105, 111, 110, 95, 112, 111, 105, 110, 116, 40, 120, 41])))) else (R.ok false)).bind fun x0m6 => R.ok x0m6
theorem glossarylaw27_awake_call {h : H} {Q : Out → H → Prop} {KK : (Bool) → Prop} {X : V → Prop} (hq : (glossarylaw27_awake).post KK X) (hK : ∀ r, KK r → Q (.ret (.bool r)) h) (hX : ∀ v, X v → V.Cl 0 v ∧ Q (.panic v) h) : CA qprim 6 [] h Q := by
  refine acalln hp Tryd.func6 rfl (by kernel_rfl) (n := 12) rfl (rs := [.tmp 0]) rfl [0, 1, 2] [] false (by simp) ?_
  unfold glossarylaw27_awake at hq
  simp only [initEnv, List.map_cons, List.map_nil, List.getD_cons_zero, List.getD_cons_succ, List.getD_nil, V.demote]
  rw [wp_seq]
  refine wp_region_i (by rfl) ?_
  simp only [go_sem, ↓evs_eq, Nat.reduceAdd, ↓reduceIte, Nat.reduceEqDiff, Nat.reduceBEq, Nat.reduceBNe, Nat.reduceLT, Int.reduceToNat, Int.reduceEq, Int.reduceLT, Int.reduceLE, reduceCtorEq, Nat.reduceMul, Nat.reduceLeDiff]
  rw [wp_seq]
  refine wp_region_i (by rfl) ?_
  simp only [go_sem, ↓evs_eq, Nat.reduceAdd, ↓reduceIte, Nat.reduceEqDiff, Nat.reduceBEq, Nat.reduceBNe, Nat.reduceLT, Int.reduceToNat, Int.reduceEq, Int.reduceLT, Int.reduceLE, reduceCtorEq, Nat.reduceMul, Nat.reduceLeDiff]
  obtain ⟨K11, hK12, hq⟩ := R.post_cut hq
  refine insert_At_call (x0 := [32, 32, 47, 47, 32, 64, 64, 112, 114, 111, 116, 111, 99, 95, 105, 110, 115, 101, 114, 116, 105, 111, 110, 95, 112, 111, 105, 110, 116, 40, 120, 41]) (x1 := [120]) (x2 := [97]) hq (fun r4 hq => ?_) (fun v hv => ⟨(hX v hv).1, ?_⟩)
  · replace hq := hK12 _ hq
    simp only [go_sem, ↓evs_eq, Nat.reduceAdd, ↓reduceIte, Nat.reduceEqDiff, Nat.reduceBEq, Nat.reduceBNe, Nat.reduceLT, Int.reduceToNat, Int.reduceEq, Int.reduceLT, Int.reduceLE, reduceCtorEq, Nat.reduceMul, Nat.reduceLeDiff]
    obtain ⟨K7, hK8, hq⟩ := R.post_cut hq
    refine seq_gen (acall_mono hp) (σ := Bool × V) (fun s => [(0, .bool s.1), (1, .str r4.1), (2, s.2)]) (fun s => h) (fun s => K7 s.1) (fun s hq => ?_) (fun N hN9 => ?_)
    · obtain ⟨x0m6, y2m6⟩ := s
      replace hq := hK8 _ hq
      try dsimp only at hq ⊢
      rw [wp_ret]
      simp only [retQ, results, resultAll, resultOne, Nat.zero_add, scopeQ, go_sem, ↓evs_eq, Nat.reduceAdd, ↓reduceIte, Nat.reduceEqDiff, Nat.reduceBEq, Nat.reduceBNe, Nat.reduceLT, Int.reduceToNat, Int.reduceEq, Int.reduceLT, Int.reduceLE, reduceCtorEq, Nat.reduceMul, Nat.reduceLeDiff]
      refine ⟨_, (.refl _), ?_⟩
      exact hK _ hq
    · refine wp_region_i (by rfl) ?_
      simp only [go_sem, ↓evs_eq, Nat.reduceAdd, ↓reduceIte, Nat.reduceEqDiff, Nat.reduceBEq, Nat.reduceBNe, Nat.reduceLT, Int.reduceToNat, Int.reduceEq, Int.reduceLT, Int.reduceLE, reduceCtorEq, Nat.reduceMul, Nat.reduceLeDiff]
      by_cases hc10 : r4.2 = true
      · replace hq := (R.post_if hq).1 hc10
        simp only [hc10, go_sem, ↓evs_eq, Nat.reduceAdd, ↓reduceIte, Nat.reduceEqDiff, Nat.reduceBEq, Nat.reduceBNe, Nat.reduceLT, Int.reduceToNat, Int.reduceEq, Int.reduceLT, Int.reduceLE, reduceCtorEq, Nat.reduceMul, Nat.reduceLeDiff]
        exact hN9 ((decide (r4.1 = ([32, 32, 97, 10, 32, 32, 47, 47, 32, 64, 64, 112, 114, 111, 116, 111, 99, 95, 105, 110, 115, 101, 114, 116, 105, 111, 110, 95, 112, 111, 105, 110, 116, 40, 120, 41]))), _) hq
      · replace hq := (R.post_if hq).2 hc10
        replace hc10 := eq_false_of_ne_true hc10
        simp only [hc10, go_sem, ↓evs_eq, Nat.reduceAdd, ↓reduceIte, Nat.reduceEqDiff, Nat.reduceBEq, Nat.reduceBNe, Nat.reduceLT, Int.reduceToNat, Int.reduceEq, Int.reduceLT, Int.reduceLE, reduceCtorEq, Nat.reduceMul, Nat.reduceLeDiff]
        exact hN9 (false, _) hq
  · simp only [RC, roundK_x, roundK_g, roundK_r, scopeQ, retQ, ↓reduceIte, Bool.false_eq_true]
    exact (hX _ hv).2

def glossaryref27_lines_j0 (x0 : List UInt8) (x3_23 : List (List UInt8)) (x4_23 : Int) : R ((List (List UInt8))) :=
  if x4_23 < (List.length x0 : Int) then (if 0 ≤ x4_23 ∧ x4_23 ≤ (List.length x0 : Int) then (if List.length x3_23 + List.length ([(List.drop (Int.toNat x4_23) x0)]) ≤ 1000000000 then (R.ok (x3_23 ++ ([(List.drop (Int.toNat x4_23) x0)]))) else R.stuck) else R.stuck) else (R.ok x3_23)
def glossaryref27_lines_l1 (x0 : List UInt8) : Nat → List (List UInt8) → Int → Int → R ((List (List UInt8)) × Int)
  | 0, _, _, _ => R.stuck
  | k + 1, x3_39, x4_39, x5_39 => if x5_39 < (List.length x0 : Int) then (if 0 ≤ x5_39 ∧ x5_39 < (List.length x0 : Int) then (if ((List.getD x0 (Int.toNat x5_39) 0).toNat : Int) = 10 then (if (0 ≤ (IntKind.wrap .i64 (x5_39 + 1)) ∧ (IntKind.wrap .i64 (x5_39 + 1)) ≤ (List.length x0 : Int)) ∧ 0 ≤ x4_39 ∧ x4_39 ≤ (IntKind.wrap .i64 (x5_39 + 1)) then (if List.length x3_39 + List.length ([(List.drop (Int.toNat x4_39) (List.take (Int.toNat (IntKind.wrap .i64 (x5_39 + 1))) x0))]) ≤ 1000000000 then (glossaryref27_lines_l1 x0 k (x3_39 ++ ([(List.drop (Int.toNat x4_39) (List.take (Int.toNat (IntKind.wrap .i64 (x5_39 + 1))) x0))])) (IntKind.wrap .i64 (x5_39 + 1)) (IntKind.wrap .i64 (x5_39 + 1))) else R.stuck) else R.stuck) else (glossaryref27_lines_l1 x0 k x3_39 x4_39 (IntKind.wrap .i64 (x5_39 + 1)))) else R.stuck) else (R.ok (x3_39, x4_39))
def glossaryref27_lines (x0 : List UInt8) : R ((List (List UInt8))) :=
  (glossaryref27_lines_l1 x0 Many [] 0 0).bind fun (x3p64, x4p64) => glossaryref27_lines_j0 x0 x3p64 x4p64
theorem glossaryref27_lines_call {h : H} {x0 : List UInt8} {Q : Out → H → Prop} {KK : ((List (List UInt8))) → Prop} {X : V → Prop} (hq : (glossaryref27_lines x0).post KK X) (hK : ∀ r, KK r → Q (.ret (.sl 1 (List.map V.str r))) h) (hX : ∀ v, X v → V.Cl 0 v ∧ Q (.panic v) h) : CA qprim 21 [.str x0] h Q := by
  refine acalln hp Tryd.func21 rfl (by kernel_rfl) (n := 37) rfl (rs := [.tmp 2]) rfl [0, 2, 3, 4, 5, 9, 15, 29] [16, 30] false (by simp) ?_
  unfold glossaryref27_lines at hq
  simp only [initEnv, List.map_cons, List.map_nil, List.getD_cons_zero, List.getD_cons_succ, List.getD_nil, V.demote]
  rw [wp_seq]
  refine wp_region_i (by rfl) ?_
  simp only [go_sem, ↓evs_eq, Nat.reduceAdd, ↓reduceIte, Nat.reduceEqDiff, Nat.reduceBEq, Nat.reduceBNe, Nat.reduceLT, Int.reduceToNat, Int.reduceEq, Int.reduceLT, Int.reduceLE, reduceCtorEq, Nat.reduceMul, Nat.reduceLeDiff]
  rw [wp_seq]
  refine wp_region_i (by rfl) ?_
  simp only [go_sem, ↓evs_eq, Nat.reduceAdd, ↓reduceIte, Nat.reduceEqDiff, Nat.reduceBEq, Nat.reduceBNe, Nat.reduceLT, Int.reduceToNat, Int.reduceEq, Int.reduceLT, Int.reduceLE, reduceCtorEq, Nat.reduceMul, Nat.reduceLeDiff]
  rw [wp_seq]
  refine wp_region_i (by rfl) ?_
  simp only [go_sem, ↓evs_eq, Nat.reduceAdd, ↓reduceIte, Nat.reduceEqDiff, Nat.reduceBEq, Nat.reduceBNe, Nat.reduceLT, Int.reduceToNat, Int.reduceEq, Int.reduceLT, Int.reduceLE, reduceCtorEq, Nat.reduceMul, Nat.reduceLeDiff]
  refine seq_gen (acall_mono hp) (σ := (List (List UInt8)) × Int × V × V × V) (fun s => [(0, .str x0), (2, .own 9 1 []), (3, .own 9 1 (List.map V.str s.1)), (4, .int .i64 s.2.1), (5, s.2.2.1), (9, s.2.2.2.1), (15, s.2.2.2.2), (29, .top)]) (fun s => h) (fun s => (glossaryref27_lines_j0 x0 s.1 s.2.1).post KK X) (fun s hq => ?_) (fun N hN38 => ?_)
  · obtain ⟨x3_23, x4_23, y5_23, y9_23, y15_23⟩ := s
    try dsimp only at hq ⊢
    unfold glossaryref27_lines_j0 at hq
    rw [wp_seq]
    rw [wp_seq]
    refine wp_region_i (by rfl) ?_
    simp only [go_sem, ↓evs_eq, Nat.reduceAdd, ↓reduceIte, Nat.reduceEqDiff, Nat.reduceBEq, Nat.reduceBNe, Nat.reduceLT, Int.reduceToNat, Int.reduceEq, Int.reduceLT, Int.reduceLE, reduceCtorEq, Nat.reduceMul, Nat.reduceLeDiff]
    rw [wp_cond]
    simp only [go_sem, ↓evs_eq, Nat.reduceAdd, ↓reduceIte, Nat.reduceEqDiff, Nat.reduceBEq, Nat.reduceBNe, Nat.reduceLT, Int.reduceToNat, Int.reduceEq, Int.reduceLT, Int.reduceLE, reduceCtorEq, Nat.reduceMul, Nat.reduceLeDiff]
    by_cases hc31 : x4_23 < (List.length x0 : Int)
    · replace hq := (R.post_if hq).1 hc31
      refine condK_t (congrArg V.bool (decide_eq_true hc31)) ?_
      refine wp_region_i (by rfl) ?_
      obtain ⟨g35, hq⟩ := R.guard hq
      obtain ⟨g36, hq⟩ := R.guard hq
      have e37 : List.map V.str x3_23 ++ [.str (List.drop (Int.toNat x4_23) x0)] = List.map V.str (x3_23 ++ ([(List.drop (Int.toNat x4_23) x0)])) := (List.map_append (f := V.str) (l₁ := x3_23) (l₂ := [(List.drop (Int.toNat x4_23) x0)])).symm
      simp only [e37, go_sem, ↓evs_eq, Nat.reduceAdd, ↓reduceIte, Nat.reduceEqDiff, Nat.reduceBEq, Nat.reduceBNe, Nat.reduceLT, Int.reduceToNat, Int.reduceEq, Int.reduceLT, Int.reduceLE, reduceCtorEq, Nat.reduceMul, Nat.reduceLeDiff]
      repeat (with_reducible refine And.intro (by first | omega | assumption) ?_)
      refine Wk.same ?_
      try simp only [RC, roundK_x, roundK_g, roundK_r]
      rw [wp_seq]
      refine wp_region_i (by rfl) ?_
      simp only [go_sem, ↓evs_eq, Nat.reduceAdd, ↓reduceIte, Nat.reduceEqDiff, Nat.reduceBEq, Nat.reduceBNe, Nat.reduceLT, Int.reduceToNat, Int.reduceEq, Int.reduceLT, Int.reduceLE, reduceCtorEq, Nat.reduceMul, Nat.reduceLeDiff]
      rw [wp_ret]
      simp only [retQ, results, resultAll, resultOne, Nat.zero_add, scopeQ, go_sem, ↓evs_eq, Nat.reduceAdd, ↓reduceIte, Nat.reduceEqDiff, Nat.reduceBEq, Nat.reduceBNe, Nat.reduceLT, Int.reduceToNat, Int.reduceEq, Int.reduceLT, Int.reduceLE, reduceCtorEq, Nat.reduceMul, Nat.reduceLeDiff]
      refine ⟨_, (.refl _), ?_⟩
      exact hK _ hq
    · replace hq := (R.post_if hq).2 hc31
      refine condK_f (congrArg V.bool (decide_eq_false hc31)) ?_
      try simp only [wp_skip, RC, roundK_x, roundK_g, roundK_r]
      refine Wk.same ?_
      try simp only [RC, roundK_x, roundK_g, roundK_r]
      rw [wp_seq]
      refine wp_region_i (by rfl) ?_
      simp only [go_sem, ↓evs_eq, Nat.reduceAdd, ↓reduceIte, Nat.reduceEqDiff, Nat.reduceBEq, Nat.reduceBNe, Nat.reduceLT, Int.reduceToNat, Int.reduceEq, Int.reduceLT, Int.reduceLE, reduceCtorEq, Nat.reduceMul, Nat.reduceLeDiff]
      rw [wp_ret]
      simp only [retQ, results, resultAll, resultOne, Nat.zero_add, scopeQ, go_sem, ↓evs_eq, Nat.reduceAdd, ↓reduceIte, Nat.reduceEqDiff, Nat.reduceBEq, Nat.reduceBNe, Nat.reduceLT, Int.reduceToNat, Int.reduceEq, Int.reduceLT, Int.reduceLE, reduceCtorEq, Nat.reduceMul, Nat.reduceLeDiff]
      refine ⟨_, (.refl _), ?_⟩
      exact hK _ hq
  · rw [wp_seq]
    refine wp_region_i (by rfl) ?_
    simp only [go_sem, ↓evs_eq, Nat.reduceAdd, ↓reduceIte, Nat.reduceEqDiff, Nat.reduceBEq, Nat.reduceBNe, Nat.reduceLT, Int.reduceToNat, Int.reduceEq, Int.reduceLT, Int.reduceLE, reduceCtorEq, Nat.reduceMul, Nat.reduceLeDiff]
    rw [wp_block]
    refine loop_in ?_
    refine Wk.same ?_
    obtain ⟨K50, hK51, hq⟩ := R.post_cut hq
    refine loop_gen (acall_mono hp) (σ := (List (List UInt8)) × Int × Int × V × V) (fun s => [(0, .str x0), (2, .own 9 1 []), (3, .own 9 1 (List.map V.str s.1)), (4, .int .i64 s.2.1), (5, .int .i64 s.2.2.1), (9, s.2.2.2.1), (15, s.2.2.2.2), (29, .top)]) (fun s => h) (fun k s => (glossaryref27_lines_l1 x0 k s.1 s.2.1 s.2.2.1).post K50 X) (fun s hs => hs) (fun k63 s hq N hN52 => ?_) _ ([], 0, 0, _, _) hq
    obtain ⟨x3_39, x4_39, x5_39, y9_39, y15_39⟩ := s
    try dsimp only at hq ⊢
    rw [glossaryref27_lines_l1] at hq
    rw [wp_seq]
    rw [wp_seq]
    refine wp_region_i (by rfl) ?_
    simp only [go_sem, ↓evs_eq, Nat.reduceAdd, ↓reduceIte, Nat.reduceEqDiff, Nat.reduceBEq, Nat.reduceBNe, Nat.reduceLT, Int.reduceToNat, Int.reduceEq, Int.reduceLT, Int.reduceLE, reduceCtorEq, Nat.reduceMul, Nat.reduceLeDiff]
    rw [wp_cond]
    simp only [go_sem, ↓evs_eq, Nat.reduceAdd, ↓reduceIte, Nat.reduceEqDiff, Nat.reduceBEq, Nat.reduceBNe, Nat.reduceLT, Int.reduceToNat, Int.reduceEq, Int.reduceLT, Int.reduceLE, reduceCtorEq, Nat.reduceMul, Nat.reduceLeDiff]
    by_cases hc53 : x5_39 < (List.length x0 : Int)
    · replace hq := (R.post_if hq).1 hc53
      refine condK_t (congrArg V.bool (decide_eq_true hc53)) ?_
      try simp only [wp_skip, RC, roundK_x, roundK_g, roundK_r]
      refine Wk.same ?_
      try simp only [RC, roundK_x, roundK_g, roundK_r]
      rw [wp_seq]
      rw [wp_block]
      rw [wp_seq]
      refine wp_region_i (by rfl) ?_
      obtain ⟨g55, hq⟩ := R.guard hq
      simp only [go_sem, ↓evs_eq, Nat.reduceAdd, ↓reduceIte, Nat.reduceEqDiff, Nat.reduceBEq, Nat.reduceBNe, Nat.reduceLT, Int.reduceToNat, Int.reduceEq, Int.reduceLT, Int.reduceLE, reduceCtorEq, Nat.reduceMul, Nat.reduceLeDiff]
      repeat (with_reducible refine And.intro (by first | omega | assumption) ?_)
      rw [wp_cond]
      simp only [go_sem, ↓evs_eq, Nat.reduceAdd, ↓reduceIte, Nat.reduceEqDiff, Nat.reduceBEq, Nat.reduceBNe, Nat.reduceLT, Int.reduceToNat, Int.reduceEq, Int.reduceLT, Int.reduceLE, reduceCtorEq, Nat.reduceMul, Nat.reduceLeDiff]
      by_cases hc56 : ((List.getD x0 (Int.toNat x5_39) 0).toNat : Int) = 10
      · replace hq := (R.post_if hq).1 hc56
        refine condK_t (congrArg V.bool (decide_eq_true hc56)) ?_
        rw [wp_seq]
        refine wp_region_i (by rfl) ?_
        obtain ⟨g60, hq⟩ := R.guard hq
        obtain ⟨g61, hq⟩ := R.guard hq
        have e62 : List.map V.str x3_39 ++ [.str (List.drop (Int.toNat x4_39) (List.take (Int.toNat (IntKind.wrap .i64 (x5_39 + 1))) x0))] = List.map V.str (x3_39 ++ ([(List.drop (Int.toNat x4_39) (List.take (Int.toNat (IntKind.wrap .i64 (x5_39 + 1))) x0))])) := (List.map_append (f := V.str) (l₁ := x3_39) (l₂ := [(List.drop (Int.toNat x4_39) (List.take (Int.toNat (IntKind.wrap .i64 (x5_39 + 1))) x0))])).symm
        simp only [e62, go_sem, ↓evs_eq, Nat.reduceAdd, ↓reduceIte, Nat.reduceEqDiff, Nat.reduceBEq, Nat.reduceBNe, Nat.reduceLT, Int.reduceToNat, Int.reduceEq, Int.reduceLT, Int.reduceLE, reduceCtorEq, Nat.reduceMul, Nat.reduceLeDiff]
        repeat (with_reducible refine And.intro (by first | omega | assumption) ?_)
        refine wp_region_i (by rfl) ?_
        simp only [go_sem, ↓evs_eq, Nat.reduceAdd, ↓reduceIte, Nat.reduceEqDiff, Nat.reduceBEq, Nat.reduceBNe, Nat.reduceLT, Int.reduceToNat, Int.reduceEq, Int.reduceLT, Int.reduceLE, reduceCtorEq, Nat.reduceMul, Nat.reduceLeDiff]
        refine Wk.same ?_
        try simp only [RC, roundK_x, roundK_g, roundK_r]
        refine Wk.same ?_
        try simp only [RC, roundK_x, roundK_g, roundK_r]
        refine wp_region_i (by rfl) ?_
        simp only [go_sem, ↓evs_eq, Nat.reduceAdd, ↓reduceIte, Nat.reduceEqDiff, Nat.reduceBEq, Nat.reduceBNe, Nat.reduceLT, Int.reduceToNat, Int.reduceEq, Int.reduceLT, Int.reduceLE, reduceCtorEq, Nat.reduceMul, Nat.reduceLeDiff]
        refine Wk.le (EnvLe.cons (.refl _) (EnvLe.cons (.refl _) (EnvLe.cons (.refl _) (EnvLe.cons (.refl _) (EnvLe.cons (.refl _) (EnvLe.cons (.top _) (EnvLe.cons (.top _) (EnvLe.cons (.refl _) EnvLe.nil)))))))) ?_
        exact hN52 ((x3_39 ++ ([(List.drop (Int.toNat x4_39) (List.take (Int.toNat (IntKind.wrap .i64 (x5_39 + 1))) x0))])), (IntKind.wrap .i64 (x5_39 + 1)), (IntKind.wrap .i64 (x5_39 + 1)), _, _) hq
      · replace hq := (R.post_if hq).2 hc56
        refine condK_f (congrArg V.bool (decide_eq_false hc56)) ?_
        try simp only [wp_skip, RC, roundK_x, roundK_g, roundK_r]
        refine Wk.same ?_
        try simp only [RC, roundK_x, roundK_g, roundK_r]
        refine Wk.same ?_
        try simp only [RC, roundK_x, roundK_g, roundK_r]
        refine wp_region_i (by rfl) ?_
        simp only [go_sem, ↓evs_eq, Nat.reduceAdd, ↓reduceIte, Nat.reduceEqDiff, Nat.reduceBEq, Nat.reduceBNe, Nat.reduceLT, Int.reduceToNat, Int.reduceEq, Int.reduceLT, Int.reduceLE, reduceCtorEq, Nat.reduceMul, Nat.reduceLeDiff]
        refine Wk.le (EnvLe.cons (.refl _) (EnvLe.cons (.refl _) (EnvLe.cons (.refl _) (EnvLe.cons (.refl _) (EnvLe.cons (.refl _) (EnvLe.cons (.top _) (EnvLe.cons (.top _) (EnvLe.cons (.refl _) EnvLe.nil)))))))) ?_
        exact hN52 (x3_39, x4_39, (IntKind.wrap .i64 (x5_39 + 1)), _, _) hq
    · replace hq := (R.post_if hq).2 hc53
      refine condK_f (congrArg V.bool (decide_eq_false hc53)) ?_
      rw [wp_exit]
      try simp only [↓reduceIte, Nat.reduceEqDiff, reduceCtorEq, if_false, if_true, eq_self, Nat.succ_ne_self, RC, roundK_x, roundK_g, roundK_r]
      replace hq := hK51 _ hq
      try dsimp only at hq
      refine Wk.le (EnvLe.cons (.refl _) (EnvLe.cons (.refl _) (EnvLe.cons (.refl _) (EnvLe.cons (.refl _) (EnvLe.cons (.top _) (EnvLe.cons (.top _) (EnvLe.cons (.refl _) (EnvLe.cons (.refl _) EnvLe.nil)))))))) ?_
      try simp only [RC, roundK_x, roundK_g, roundK_r]
      exact hN38 (x3_39, x4_39, _, _, _) hq

def glossaryref27_in_j0 : R (Bool) :=
  R.ok false
def glossaryref27_in_l1 (x0 : List UInt8) (x1 : List UInt8) : Nat → Int → R ((Unit) ⊕ (Bool))
  | 0, _ => R.stuck
  | k + 1, x5_14 => if (IntKind.wrap .i64 (x5_14 + (List.length x1 : Int))) ≤ (List.length x0 : Int) then (if (0 ≤ (IntKind.wrap .i64 (x5_14 + (List.length x1 : Int))) ∧ (IntKind.wrap .i64 (x5_14 + (List.length x1 : Int))) ≤ (List.length x0 : Int)) ∧ 0 ≤ x5_14 ∧ x5_14 ≤ (IntKind.wrap .i64 (x5_14 + (List.length x1 : Int))) then (if (List.drop (Int.toNat x5_14) (List.take (Int.toNat (IntKind.wrap .i64 (x5_14 + (List.length x1 : Int)))) x0)) = x1 then (R.ok (.inr true)) else (glossaryref27_in_l1 x0 x1 k (IntKind.wrap .i64 (x5_14 + 1)))) else R.stuck) else (R.ok (.inl ()))
def glossaryref27_in (x0 : List UInt8) (x1 : List UInt8) : R (Bool) :=
  (glossaryref27_in_l1 x0 x1 Many 0).bind fun | (.inl _) => glossaryref27_in_j0 | (.inr rp28) => R.ok rp28
theorem glossaryref27_in_call {h : H} {x0 : List UInt8} {x1 : List UInt8} {Q : Out → H → Prop} {KK : (Bool) → Prop} {X : V → Prop} (hq : (glossaryref27_in x0 x1).post KK X) (hK : ∀ r, KK r → Q (.ret (.bool r)) h) (hX : ∀ v, X v → V.Cl 0 v ∧ Q (.panic v) h) : CA qprim 22 [.str x0, .str x1] h Q := by
  refine acalln hp Tryd.func22 rfl (by kernel_rfl) (n := 24) rfl (rs := [.tmp 4]) rfl [0, 1, 4, 5, 12, 23] [] false (by simp) ?_
  unfold glossaryref27_in at hq
  simp only [initEnv, List.map_cons, List.map_nil, List.getD_cons_zero, List.getD_cons_succ, List.getD_nil, V.demote]
  rw [wp_seq]
  refine wp_region_i (by rfl) ?_
  simp only [go_sem, ↓evs_eq, Nat.reduceAdd, ↓reduceIte, Nat.reduceEqDiff, Nat.reduceBEq, Nat.reduceBNe, Nat.reduceLT, Int.reduceToNat, Int.reduceEq, Int.reduceLT, Int.reduceLE, reduceCtorEq, Nat.reduceMul, Nat.reduceLeDiff]
  refine seq_gen (acall_mono hp) (σ := V × V × V × V) (fun s => [(0, .str x0), (1, .str x1), (4, s.1), (5, s.2.1), (12, s.2.2.1), (23, s.2.2.2)]) (fun s => h) (fun s => (glossaryref27_in_j0).post KK X) (fun s hq => ?_) (fun N hN13 => ?_)
  · obtain ⟨y4_12, y5_12, y12_12, y23_12⟩ := s
    try dsimp only at hq ⊢
    unfold glossaryref27_in_j0 at hq
    rw [wp_seq]
    refine wp_region_i (by rfl) ?_
    simp only [go_sem, ↓evs_eq, Nat.reduceAdd, ↓reduceIte, Nat.reduceEqDiff, Nat.reduceBEq, Nat.reduceBNe, Nat.reduceLT, Int.reduceToNat, Int.reduceEq, Int.reduceLT, Int.reduceLE, reduceCtorEq, Nat.reduceMul, Nat.reduceLeDiff]
    rw [wp_ret]
    simp only [retQ, results, resultAll, resultOne, Nat.zero_add, scopeQ, go_sem, ↓evs_eq, Nat.reduceAdd, ↓reduceIte, Nat.reduceEqDiff, Nat.reduceBEq, Nat.reduceBNe, Nat.reduceLT, Int.reduceToNat, Int.reduceEq, Int.reduceLT, Int.reduceLE, reduceCtorEq, Nat.reduceMul, Nat.reduceLeDiff]
    refine ⟨_, (.refl _), ?_⟩
    exact hK _ hq
  · rw [wp_seq]
    refine wp_region_i (by rfl) ?_
    simp only [go_sem, ↓evs_eq, Nat.reduceAdd, ↓reduceIte, Nat.reduceEqDiff, Nat.reduceBEq, Nat.reduceBNe, Nat.reduceLT, Int.reduceToNat, Int.reduceEq, Int.reduceLT, Int.reduceLE, reduceCtorEq, Nat.reduceMul, Nat.reduceLeDiff]
    rw [wp_block]
    refine loop_in ?_
    refine Wk.le (EnvLe.cons (.refl _) (EnvLe.cons (.refl _) (EnvLe.cons (.top _) (EnvLe.cons (.refl _) (EnvLe.cons (.refl _) (EnvLe.cons (.refl _) EnvLe.nil)))))) ?_
    obtain ⟨K19, hK20, hq⟩ := R.post_cut hq
    refine loop_gen (acall_mono hp) (σ := V × Int × V × V) (fun s => [(0, .str x0), (1, .str x1), (4, s.1), (5, .int .i64 s.2.1), (12, s.2.2.1), (23, s.2.2.2)]) (fun s => h) (fun k s => (glossaryref27_in_l1 x0 x1 k s.2.1).post K19 X) (fun s hs => hs) (fun k26 s hq N hN21 => ?_) _ (_, 0, _, _) hq
    obtain ⟨y4_14, x5_14, y12_14, y23_14⟩ := s
    try dsimp only at hq ⊢
    rw [glossaryref27_in_l1] at hq
    rw [wp_seq]
    rw [wp_seq]
    refine wp_region_i (by rfl) ?_
    simp only [go_sem, ↓evs_eq, Nat.reduceAdd, ↓reduceIte, Nat.reduceEqDiff, Nat.reduceBEq, Nat.reduceBNe, Nat.reduceLT, Int.reduceToNat, Int.reduceEq, Int.reduceLT, Int.reduceLE, reduceCtorEq, Nat.reduceMul, Nat.reduceLeDiff]
    rw [wp_cond]
    simp only [go_sem, ↓evs_eq, Nat.reduceAdd, ↓reduceIte, Nat.reduceEqDiff, Nat.reduceBEq, Nat.reduceBNe, Nat.reduceLT, Int.reduceToNat, Int.reduceEq, Int.reduceLT, Int.reduceLE, reduceCtorEq, Nat.reduceMul, Nat.reduceLeDiff]
    by_cases hc22 : (IntKind.wrap .i64 (x5_14 + (List.length x1 : Int))) ≤ (List.length x0 : Int)
    · replace hq := (R.post_if hq).1 hc22
      refine condK_t (congrArg V.bool (decide_eq_true hc22)) ?_
      try simp only [wp_skip, RC, roundK_x, roundK_g, roundK_r]
      refine Wk.same ?_
      try simp only [RC, roundK_x, roundK_g, roundK_r]
      rw [wp_seq]
      rw [wp_block]
      rw [wp_seq]
      refine wp_region_i (by rfl) ?_
      obtain ⟨g24, hq⟩ := R.guard hq
      simp only [go_sem, ↓evs_eq, Nat.reduceAdd, ↓reduceIte, Nat.reduceEqDiff, Nat.reduceBEq, Nat.reduceBNe, Nat.reduceLT, Int.reduceToNat, Int.reduceEq, Int.reduceLT, Int.reduceLE, reduceCtorEq, Nat.reduceMul, Nat.reduceLeDiff]
      repeat (with_reducible refine And.intro (by first | omega | assumption) ?_)
      rw [wp_cond]
      simp only [go_sem, ↓evs_eq, Nat.reduceAdd, ↓reduceIte, Nat.reduceEqDiff, Nat.reduceBEq, Nat.reduceBNe, Nat.reduceLT, Int.reduceToNat, Int.reduceEq, Int.reduceLT, Int.reduceLE, reduceCtorEq, Nat.reduceMul, Nat.reduceLeDiff]
      by_cases hc25 : (List.drop (Int.toNat x5_14) (List.take (Int.toNat (IntKind.wrap .i64 (x5_14 + (List.length x1 : Int)))) x0)) = x1
      · replace hq := (R.post_if hq).1 hc25
        refine condK_t (congrArg V.bool (decide_eq_true hc25)) ?_
        rw [wp_seq]
        refine wp_region_i (by rfl) ?_
        simp only [go_sem, ↓evs_eq, Nat.reduceAdd, ↓reduceIte, Nat.reduceEqDiff, Nat.reduceBEq, Nat.reduceBNe, Nat.reduceLT, Int.reduceToNat, Int.reduceEq, Int.reduceLT, Int.reduceLE, reduceCtorEq, Nat.reduceMul, Nat.reduceLeDiff]
        rw [wp_ret]
        simp only [retQ, results, resultAll, resultOne, Nat.zero_add, scopeQ, go_sem, ↓evs_eq, Nat.reduceAdd, ↓reduceIte, Nat.reduceEqDiff, Nat.reduceBEq, Nat.reduceBNe, Nat.reduceLT, Int.reduceToNat, Int.reduceEq, Int.reduceLT, Int.reduceLE, reduceCtorEq, Nat.reduceMul, Nat.reduceLeDiff]
        refine ⟨_, (.refl _), ?_⟩
        replace hq := hK20 _ hq
        exact hK _ hq
      · replace hq := (R.post_if hq).2 hc25
        refine condK_f (congrArg V.bool (decide_eq_false hc25)) ?_
        try simp only [wp_skip, RC, roundK_x, roundK_g, roundK_r]
        refine Wk.same ?_
        try simp only [RC, roundK_x, roundK_g, roundK_r]
        refine Wk.same ?_
        try simp only [RC, roundK_x, roundK_g, roundK_r]
        refine wp_region_i (by rfl) ?_
        simp only [go_sem, ↓evs_eq, Nat.reduceAdd, ↓reduceIte, Nat.reduceEqDiff, Nat.reduceBEq, Nat.reduceBNe, Nat.reduceLT, Int.reduceToNat, Int.reduceEq, Int.reduceLT, Int.reduceLE, reduceCtorEq, Nat.reduceMul, Nat.reduceLeDiff]
        refine Wk.le (EnvLe.cons (.refl _) (EnvLe.cons (.refl _) (EnvLe.cons (.refl _) (EnvLe.cons (.refl _) (EnvLe.cons (.top _) (EnvLe.cons (.top _) EnvLe.nil)))))) ?_
        exact hN21 (_, (IntKind.wrap .i64 (x5_14 + 1)), _, _) hq
    · replace hq := (R.post_if hq).2 hc22
      refine condK_f (congrArg V.bool (decide_eq_false hc22)) ?_
      rw [wp_exit]
      try simp only [↓reduceIte, Nat.reduceEqDiff, reduceCtorEq, if_false, if_true, eq_self, Nat.succ_ne_self, RC, roundK_x, roundK_g, roundK_r]
      replace hq := hK20 _ hq
      try dsimp only at hq
      refine Wk.le (EnvLe.cons (.refl _) (EnvLe.cons (.refl _) (EnvLe.cons (.refl _) (EnvLe.cons (.top _) (EnvLe.cons (.top _) (EnvLe.cons (.refl _) EnvLe.nil)))))) ?_
      try simp only [RC, roundK_x, roundK_g, roundK_r]
      exact hN13 (_, _, _, _) hq
end Go.Proofs.YtmjohmefhikelaaDoor.Pv
