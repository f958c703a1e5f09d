/- Functions of the program, as plain Lean functions, and that the code comes to them: printed by gen.py. -/
import Derived.Test.YtmjohmefhikelaaDoorG2
set_option linter.unusedVariables false
set_option linter.unusedSimpArgs false
set_option maxHeartbeats 4000000
set_option maxRecDepth 10000
namespace Go.Proofs.YtmjohmefhikelaaDoor.Pv
open Go Go.Proofs

attribute [local go_sem] RC RL RM roundK_x roundK_g roundK_r loadN V.slz V.slz1 lnB V.left V.lenOf slice3 sliceNil Option.getD_none Option.getD_some sliceOp cut upon_each nextM entryOp buildOk lookup lookV update elemOf Option.isSome_map unOp wanted aop tkB rwB neD Env.get Env.put Env.keep putD dstOk ev constV nilSlice V.demote V.toOwn V.asOwn V.cells tyE R1.res binOp isShift binOpT isC intOp strOp shiftOp byteV index indexAddr slice bounds hiB loB withB maxV minV evs pickV lenV builtin initEnv convert K.isU8 strOf load store fieldOf append appT fltOp cpxV realV imagV toInt rangeOp nextOp room fill placeOf splice repl chunks Ty.val Ty.agg V.plain H.row H.ety AObj.row putAll demEnv updH
def glossaryref27_blanks_j0 (x0 : List UInt8) (x3_15 : Int) : R ((List UInt8)) :=
  if 0 ≤ x3_15 ∧ x3_15 ≤ (List.length x0 : Int) then (R.ok (List.take (Int.toNat x3_15) x0)) else R.stuck
def glossaryref27_blanks_l1 (x0 : List UInt8) : Nat → Int → R (Int)
  | 0, _ => R.stuck
  | k + 1, x3_19 => (if x3_19 < (List.length x0 : Int) then (if 0 ≤ x3_19 ∧ x3_19 < (List.length x0 : Int) then (if ((List.getD x0 (Int.toNat x3_19) 0).toNat : Int) = 32 then (R.ok true) else (if 0 ≤ x3_19 ∧ x3_19 < (List.length x0 : Int) then (R.ok (decide (((List.getD x0 (Int.toNat x3_19) 0).toNat : Int) = 9))) else R.stuck)) else R.stuck) else (R.ok false)).bind fun x19m33 => if x19m33 = true then (glossaryref27_blanks_l1 x0 k (IntKind.wrap .i64 (x3_19 + 1))) else (R.ok x3_19)
def glossaryref27_blanks (x0 : List UInt8) : R ((List UInt8)) :=
  (glossaryref27_blanks_l1 x0 Many 0).bind fun x3p43 => glossaryref27_blanks_j0 x0 x3p43
theorem glossaryref27_blanks_call {h : H} {x0 : List UInt8} {Q : Out → H → Prop} {KK : ((List UInt8)) → Prop} {X : V → Prop} (hq : (glossaryref27_blanks x0).post KK X) (hK : ∀ r, KK r → Q (.ret (.str r)) h) (hX : ∀ v, X v → V.Cl 0 v ∧ Q (.panic v) h) : CA qprim 23 [.str x0] h Q := by
  refine acalln hp Tryd.func23 rfl (by kernel_rfl) (n := 25) rfl (rs := [.tmp 2]) rfl [0, 2, 3, 19] [] false (by simp) ?_
  unfold glossaryref27_blanks at hq
  simp only [initEnv, List.map_cons, List.map_nil, List.getD_cons_zero, List.getD_cons_succ, List.getD_nil, V.demote]
  rw [wp_seq]
  refine wp_region_i (by rfl) ?_
  simp only [go_sem, ↓evs_eq, Nat.reduceAdd, ↓reduceIte, Nat.reduceEqDiff, Nat.reduceBEq, Nat.reduceBNe, Nat.reduceLT, Int.reduceToNat, Int.reduceEq, Int.reduceLT, Int.reduceLE, reduceCtorEq, Nat.reduceMul, Nat.reduceLeDiff]
  rw [wp_seq]
  refine wp_region_i (by rfl) ?_
  simp only [go_sem, ↓evs_eq, Nat.reduceAdd, ↓reduceIte, Nat.reduceEqDiff, Nat.reduceBEq, Nat.reduceBNe, Nat.reduceLT, Int.reduceToNat, Int.reduceEq, Int.reduceLT, Int.reduceLE, reduceCtorEq, Nat.reduceMul, Nat.reduceLeDiff]
  refine seq_gen (acall_mono hp) (σ := Int × V) (fun s => [(0, .str x0), (2, .str []), (3, .int .i64 s.1), (19, s.2)]) (fun s => h) (fun s => (glossaryref27_blanks_j0 x0 s.1).post KK X) (fun s hq => ?_) (fun N hN18 => ?_)
  · obtain ⟨x3_15, y19_15⟩ := s
    try dsimp only at hq ⊢
    unfold glossaryref27_blanks_j0 at hq
    rw [wp_seq]
    refine wp_region_i (by rfl) ?_
    obtain ⟨g17, hq⟩ := R.guard hq
    simp only [go_sem, ↓evs_eq, Nat.reduceAdd, ↓reduceIte, Nat.reduceEqDiff, Nat.reduceBEq, Nat.reduceBNe, Nat.reduceLT, Int.reduceToNat, Int.reduceEq, Int.reduceLT, Int.reduceLE, reduceCtorEq, Nat.reduceMul, Nat.reduceLeDiff]
    repeat (with_reducible refine And.intro (by first | omega | assumption) ?_)
    rw [wp_ret]
    simp only [retQ, results, resultAll, resultOne, Nat.zero_add, scopeQ, go_sem, ↓evs_eq, Nat.reduceAdd, ↓reduceIte, Nat.reduceEqDiff, Nat.reduceBEq, Nat.reduceBNe, Nat.reduceLT, Int.reduceToNat, Int.reduceEq, Int.reduceLT, Int.reduceLE, reduceCtorEq, Nat.reduceMul, Nat.reduceLeDiff]
    refine ⟨_, (.refl _), ?_⟩
    exact hK _ hq
  · rw [wp_block]
    refine loop_in ?_
    refine Wk.same ?_
    obtain ⟨K26, hK27, hq⟩ := R.post_cut hq
    refine loop_gen (acall_mono hp) (σ := Int × V) (fun s => [(0, .str x0), (2, .str []), (3, .int .i64 s.1), (19, s.2)]) (fun s => h) (fun k s => (glossaryref27_blanks_l1 x0 k s.1).post K26 X) (fun s hs => hs) (fun k42 s hq N hN28 => ?_) _ (0, _) hq
    obtain ⟨x3_19, y19_19⟩ := s
    try dsimp only at hq ⊢
    rw [glossaryref27_blanks_l1] at hq
    rw [wp_seq]
    obtain ⟨K34, hK35, hq⟩ := R.post_cut hq
    refine seq_gen (acall_mono hp) (σ := Bool) (fun s => [(0, .str x0), (2, .str []), (3, .int .i64 x3_19), (19, .bool s)]) (fun s => h) (fun s => K34 s) (fun x19m33 hq => ?_) (fun N hN36 => ?_)
    · replace hq := hK35 _ hq
      try dsimp only at hq ⊢
      rw [wp_cond]
      simp only [go_sem, ↓evs_eq, Nat.reduceAdd, ↓reduceIte, Nat.reduceEqDiff, Nat.reduceBEq, Nat.reduceBNe, Nat.reduceLT, Int.reduceToNat, Int.reduceEq, Int.reduceLT, Int.reduceLE, reduceCtorEq, Nat.reduceMul, Nat.reduceLeDiff]
      by_cases hc41 : x19m33 = true
      · replace hq := (R.post_if hq).1 hc41
        refine condK_t (congrArg V.bool (hc41)) ?_
        try simp only [wp_skip, RC, roundK_x, roundK_g, roundK_r]
        refine Wk.same ?_
        try simp only [RC, roundK_x, roundK_g, roundK_r]
        rw [wp_block]
        refine wp_region_i (by rfl) ?_
        simp only [go_sem, ↓evs_eq, Nat.reduceAdd, ↓reduceIte, Nat.reduceEqDiff, Nat.reduceBEq, Nat.reduceBNe, Nat.reduceLT, Int.reduceToNat, Int.reduceEq, Int.reduceLT, Int.reduceLE, reduceCtorEq, Nat.reduceMul, Nat.reduceLeDiff]
        refine Wk.le (EnvLe.cons (.refl _) (EnvLe.cons (.refl _) (EnvLe.cons (.refl _) (EnvLe.cons (.top _) EnvLe.nil)))) ?_
        try simp only [RC, roundK_x, roundK_g, roundK_r]
        refine Wk.same ?_
        exact hN28 ((IntKind.wrap .i64 (x3_19 + 1)), _) hq
      · replace hq := (R.post_if hq).2 hc41
        replace hc41 := eq_false_of_ne_true hc41
        refine condK_f (congrArg V.bool (hc41)) ?_
        rw [wp_exit]
        try simp only [↓reduceIte, Nat.reduceEqDiff, reduceCtorEq, if_false, if_true, eq_self, Nat.succ_ne_self, RC, roundK_x, roundK_g, roundK_r]
        replace hq := hK27 _ hq
        try dsimp only at hq
        refine Wk.le (EnvLe.cons (.refl _) (EnvLe.cons (.refl _) (EnvLe.cons (.refl _) (EnvLe.cons (.top _) EnvLe.nil)))) ?_
        try simp only [RC, roundK_x, roundK_g, roundK_r]
        exact hN18 (x3_19, _) hq
    · refine wp_region_i (by rfl) ?_
      simp only [go_sem, ↓evs_eq, Nat.reduceAdd, ↓reduceIte, Nat.reduceEqDiff, Nat.reduceBEq, Nat.reduceBNe, Nat.reduceLT, Int.reduceToNat, Int.reduceEq, Int.reduceLT, Int.reduceLE, reduceCtorEq, Nat.reduceMul, Nat.reduceLeDiff]
      by_cases hc37 : x3_19 < (List.length x0 : Int)
      · replace hq := (R.post_if hq).1 hc37
        obtain ⟨g38, hq⟩ := R.guard hq
        simp only [decide_eq_true hc37, go_sem, ↓evs_eq, Nat.reduceAdd, ↓reduceIte, Nat.reduceEqDiff, Nat.reduceBEq, Nat.reduceBNe, Nat.reduceLT, Int.reduceToNat, Int.reduceEq, Int.reduceLT, Int.reduceLE, reduceCtorEq, Nat.reduceMul, Nat.reduceLeDiff]
        repeat (with_reducible refine And.intro (by first | omega | assumption) ?_)
        by_cases hc39 : ((List.getD x0 (Int.toNat x3_19) 0).toNat : Int) = 32
        · replace hq := (R.post_if hq).1 hc39
          simp only [decide_eq_true hc39, go_sem, ↓evs_eq, Nat.reduceAdd, ↓reduceIte, Nat.reduceEqDiff, Nat.reduceBEq, Nat.reduceBNe, Nat.reduceLT, Int.reduceToNat, Int.reduceEq, Int.reduceLT, Int.reduceLE, reduceCtorEq, Nat.reduceMul, Nat.reduceLeDiff]
          exact hN36 true hq
        · replace hq := (R.post_if hq).2 hc39
          obtain ⟨g40, hq⟩ := R.guard hq
          simp only [decide_eq_false hc39, go_sem, ↓evs_eq, Nat.reduceAdd, ↓reduceIte, Nat.reduceEqDiff, Nat.reduceBEq, Nat.reduceBNe, Nat.reduceLT, Int.reduceToNat, Int.reduceEq, Int.reduceLT, Int.reduceLE, reduceCtorEq, Nat.reduceMul, Nat.reduceLeDiff]
          repeat (with_reducible refine And.intro (by first | omega | assumption) ?_)
          exact hN36 (decide (((List.getD x0 (Int.toNat x3_19) 0).toNat : Int) = 9)) hq
      · replace hq := (R.post_if hq).2 hc37
        simp only [decide_eq_false hc37, go_sem, ↓evs_eq, Nat.reduceAdd, ↓reduceIte, Nat.reduceEqDiff, Nat.reduceBEq, Nat.reduceBNe, Nat.reduceLT, Int.reduceToNat, Int.reduceEq, Int.reduceLT, Int.reduceLE, reduceCtorEq, Nat.reduceMul, Nat.reduceLeDiff]
        exact hN36 false hq

def glossaryref27_At_j0 (x8_257 : List UInt8) (x9_257 : Bool) : R ((List UInt8) × Bool) :=
  if x9_257 = true then (R.ok (x8_257, true)) else (R.ok ([], false))
def glossaryref27_At_j2 (self_glossaryref27_At_l1 : List UInt8 → Bool → List (List UInt8) → Int → Int → R ((List UInt8) × Bool)) (x8_448 : List UInt8) (x9_448 : Bool) (x15_448 : List (List UInt8)) (x16_448 : Int) (x17_448 : Int) : R ((List UInt8) × Bool) :=
  self_glossaryref27_At_l1 x8_448 x9_448 x15_448 x16_448 (IntKind.wrap .i64 (x17_448 + 1))
def glossaryref27_At_j3 (self_glossaryref27_At_l1 : List UInt8 → Bool → List (List UInt8) → Int → Int → R ((List UInt8) × Bool)) (x8_454 : List UInt8) (x9_454 : Bool) (x11_454 : List UInt8) (x15_454 : List (List UInt8)) (x16_454 : Int) (x17_454 : Int) : R ((List UInt8) × Bool) :=
  if List.length x8_454 + List.length x11_454 ≤ 1000000000 then (glossaryref27_At_j2 self_glossaryref27_At_l1 (x8_454 ++ x11_454) x9_454 x15_454 x16_454 x17_454) else R.stuck
def glossaryref27_At_j5 (self_glossaryref27_At_l4 : List UInt8 → List UInt8 → List (List UInt8) → Int → Int → List (List UInt8) → Int → Int → R ((List UInt8) × (List UInt8) × (List (List UInt8)) × Int × Int)) (x8_525 : List UInt8) (x11_525 : List UInt8) (x13_525 : List UInt8) (x15_525 : List (List UInt8)) (x16_525 : Int) (x17_525 : Int) (x27_525 : List (List UInt8)) (x28_525 : Int) (x29_525 : Int) : R ((List UInt8) × (List UInt8) × (List (List UInt8)) × Int × Int) :=
  if List.length x8_525 + List.length x13_525 ≤ 1000000000 then (if 0 ≤ (IntKind.wrap .i64 ((List.length x13_525 : Int) - 1)) ∧ (IntKind.wrap .i64 ((List.length x13_525 : Int) - 1)) < (List.length x13_525 : Int) then (if ((List.getD x13_525 (Int.toNat (IntKind.wrap .i64 ((List.length x13_525 : Int) - 1))) 0).toNat : Int) = 10 then (self_glossaryref27_At_l4 (x8_525 ++ x13_525) x11_525 x15_525 x16_525 x17_525 x27_525 x28_525 (IntKind.wrap .i64 (x29_525 + 1))) else (if List.length (x8_525 ++ x13_525) + List.length ([10]) ≤ 1000000000 then (self_glossaryref27_At_l4 ((x8_525 ++ x13_525) ++ ([10])) x11_525 x15_525 x16_525 x17_525 x27_525 x28_525 (IntKind.wrap .i64 (x29_525 + 1))) else R.stuck)) else R.stuck) else R.stuck
def glossaryref27_At_l4 : Nat → List UInt8 → List UInt8 → List (List UInt8) → Int → Int → List (List UInt8) → Int → Int → R ((List UInt8) × (List UInt8) × (List (List UInt8)) × Int × Int)
  | 0, _, _, _, _, _, _, _, _ => R.stuck
  | k + 1, x8_494, x11_494, x15_494, x16_494, x17_494, x27_494, x28_494, x29_494 => if x29_494 < x28_494 then (if 0 ≤ x29_494 ∧ x29_494 < (List.length x27_494 : Int) then (if (gt x27_494 x29_494) = ([10]) then (glossaryref27_At_j5 (glossaryref27_At_l4 k) x8_494 x11_494 (gt x27_494 x29_494) x15_494 x16_494 x17_494 x27_494 x28_494 x29_494) else ((glossaryref27_blanks x11_494).bind fun r539 => if List.length x8_494 + List.length r539 ≤ 1000000000 then (glossaryref27_At_j5 (glossaryref27_At_l4 k) (x8_494 ++ r539) x11_494 (gt x27_494 x29_494) x15_494 x16_494 x17_494 x27_494 x28_494 x29_494) else R.stuck)) else R.stuck) else (R.ok (x8_494, x11_494, x15_494, x16_494, x17_494))
def glossaryref27_At_l1 (x1 : List UInt8) (x2 : List UInt8) : Nat → List UInt8 → Bool → List (List UInt8) → Int → Int → R ((List UInt8) × Bool)
  | 0, _, _, _, _, _ => R.stuck
  | k + 1, x8_370, x9_370, x15_370, x16_370, x17_370 => if x17_370 < x16_370 then (if 0 ≤ x17_370 ∧ x17_370 < (List.length x15_370 : Int) then (if List.length ([64, 64, 112, 114, 111, 116, 111, 99, 95, 105, 110, 115, 101, 114, 116, 105, 111, 110, 95, 112, 111, 105, 110, 116, 40]) + List.length x1 ≤ 1000000000 then (if List.length (([64, 64, 112, 114, 111, 116, 111, 99, 95, 105, 110, 115, 101, 114, 116, 105, 111, 110, 95, 112, 111, 105, 110, 116, 40]) ++ x1) + List.length ([41]) ≤ 1000000000 then ((glossaryref27_in (gt x15_370 x17_370) ((([64, 64, 112, 114, 111, 116, 111, 99, 95, 105, 110, 115, 101, 114, 116, 105, 111, 110, 95, 112, 111, 105, 110, 116, 40]) ++ x1) ++ ([41]))).bind fun r465 => if r465 = true then ((glossaryref27_lines x2).bind fun r470 => (glossaryref27_At_l4 Many x8_370 (gt x15_370 x17_370) x15_370 x16_370 x17_370 r470 (List.length r470 : Int) 0).bind fun (x8p544, x11p544, x15p544, x16p544, x17p544) => glossaryref27_At_j3 (glossaryref27_At_l1 x1 x2 k) x8p544 true x11p544 x15p544 x16p544 x17p544) else (glossaryref27_At_j3 (glossaryref27_At_l1 x1 x2 k) x8_370 x9_370 (gt x15_370 x17_370) x15_370 x16_370 x17_370)) else R.stuck) else R.stuck) else R.stuck) else (R.ok (x8_370, x9_370))
def glossaryref27_At (x0 : List UInt8) (x1 : List UInt8) (x2 : List UInt8) : R ((List UInt8) × Bool) :=
  (glossaryref27_lines x0).bind fun r264 => (glossaryref27_At_l1 x1 x2 Many [] false r264 (List.length r264 : Int) 0).bind fun (x8p550, x9p550) => glossaryref27_At_j0 x8p550 x9p550
theorem glossaryref27_At_call {h : H} {x0 : List UInt8} {x1 : List UInt8} {x2 : List UInt8} {Q : Out → H → Prop} {KK : ((List UInt8) × Bool) → Prop} {X : V → Prop} (hq : (glossaryref27_At x0 x1 x2).post KK X) (hK : ∀ r, KK r → Q (.ret (.tup [.str r.1, .bool r.2])) h) (hX : ∀ v, X v → V.Cl 0 v ∧ Q (.panic v) h) : CA qprim 8 [.str x0, .str x1, .str x2] h Q := by
  refine acalln hp Tryd.func8 rfl (by kernel_rfl) (n := 58) rfl (rs := [.tmp 6, .tmp 7]) rfl [0, 1, 2, 6, 7, 8, 9, 11, 13, 15, 16, 17, 18, 25, 27, 28, 29, 30, 34, 47, 56] [] false (by simp) ?_
  unfold glossaryref27_At at hq
  simp only [initEnv, List.map_cons, List.map_nil, List.getD_cons_zero, List.getD_cons_succ, List.getD_nil, V.demote]
  rw [wp_seq]
  refine wp_region_i (by rfl) ?_
  simp only [go_sem, ↓evs_eq, Nat.reduceAdd, ↓reduceIte, Nat.reduceEqDiff, Nat.reduceBEq, Nat.reduceBNe, Nat.reduceLT, Int.reduceToNat, Int.reduceEq, Int.reduceLT, Int.reduceLE, reduceCtorEq, Nat.reduceMul, Nat.reduceLeDiff]
  rw [wp_seq]
  refine wp_region_i (by rfl) ?_
  simp only [go_sem, ↓evs_eq, Nat.reduceAdd, ↓reduceIte, Nat.reduceEqDiff, Nat.reduceBEq, Nat.reduceBNe, Nat.reduceLT, Int.reduceToNat, Int.reduceEq, Int.reduceLT, Int.reduceLE, reduceCtorEq, Nat.reduceMul, Nat.reduceLeDiff]
  refine seq_gen (acall_mono hp) (σ := (List UInt8) × Bool × V × V × V × V × V × V × V × V × V × V × V × V × V) (fun s => [(0, .str x0), (1, .str x1), (2, .str x2), (6, .str []), (7, .bool false), (8, .str s.1), (9, .bool s.2.1), (11, s.2.2.1), (13, s.2.2.2.1), (15, s.2.2.2.2.1), (16, s.2.2.2.2.2.1), (17, s.2.2.2.2.2.2.1), (18, s.2.2.2.2.2.2.2.1), (25, s.2.2.2.2.2.2.2.2.1), (27, s.2.2.2.2.2.2.2.2.2.1), (28, s.2.2.2.2.2.2.2.2.2.2.1), (29, s.2.2.2.2.2.2.2.2.2.2.2.1), (30, s.2.2.2.2.2.2.2.2.2.2.2.2.1), (34, s.2.2.2.2.2.2.2.2.2.2.2.2.2.1), (47, s.2.2.2.2.2.2.2.2.2.2.2.2.2.2), (56, .top)]) (fun s => h) (fun s => (glossaryref27_At_j0 s.1 s.2.1).post KK X) (fun s hq => ?_) (fun N hN260 => ?_)
  · obtain ⟨x8_257, x9_257, y11_257, y13_257, y15_257, y16_257, y17_257, y18_257, y25_257, y27_257, y28_257, y29_257, y30_257, y34_257, y47_257⟩ := s
    try dsimp only at hq ⊢
    unfold glossaryref27_At_j0 at hq
    rw [wp_seq]
    rw [wp_seq]
    refine wp_region_i (by rfl) ?_
    simp only [go_sem, ↓evs_eq, Nat.reduceAdd, ↓reduceIte, Nat.reduceEqDiff, Nat.reduceBEq, Nat.reduceBNe, Nat.reduceLT, Int.reduceToNat, Int.reduceEq, Int.reduceLT, Int.reduceLE, reduceCtorEq, Nat.reduceMul, Nat.reduceLeDiff]
    rw [wp_cond]
    simp only [go_sem, ↓evs_eq, Nat.reduceAdd, ↓reduceIte, Nat.reduceEqDiff, Nat.reduceBEq, Nat.reduceBNe, Nat.reduceLT, Int.reduceToNat, Int.reduceEq, Int.reduceLT, Int.reduceLE, reduceCtorEq, Nat.reduceMul, Nat.reduceLeDiff]
    by_cases hc259 : x9_257 = true
    · replace hq := (R.post_if hq).1 hc259
      refine condK_f (congrArg (fun b => V.bool (!b)) (hc259)) ?_
      try simp only [wp_skip, RC, roundK_x, roundK_g, roundK_r]
      refine Wk.same ?_
      try simp only [RC, roundK_x, roundK_g, roundK_r]
      rw [wp_seq]
      refine wp_region_i (by rfl) ?_
      simp only [go_sem, ↓evs_eq, Nat.reduceAdd, ↓reduceIte, Nat.reduceEqDiff, Nat.reduceBEq, Nat.reduceBNe, Nat.reduceLT, Int.reduceToNat, Int.reduceEq, Int.reduceLT, Int.reduceLE, reduceCtorEq, Nat.reduceMul, Nat.reduceLeDiff]
      rw [wp_ret]
      simp only [retQ, results, resultAll, resultOne, Nat.zero_add, scopeQ, go_sem, ↓evs_eq, Nat.reduceAdd, ↓reduceIte, Nat.reduceEqDiff, Nat.reduceBEq, Nat.reduceBNe, Nat.reduceLT, Int.reduceToNat, Int.reduceEq, Int.reduceLT, Int.reduceLE, reduceCtorEq, Nat.reduceMul, Nat.reduceLeDiff]
      refine ⟨_, (.refl _), ?_⟩
      exact hK _ hq
    · replace hq := (R.post_if hq).2 hc259
      replace hc259 := eq_false_of_ne_true hc259
      refine condK_t (congrArg (fun b => V.bool (!b)) (hc259)) ?_
      rw [wp_seq]
      refine wp_region_i (by rfl) ?_
      simp only [go_sem, ↓evs_eq, Nat.reduceAdd, ↓reduceIte, Nat.reduceEqDiff, Nat.reduceBEq, Nat.reduceBNe, Nat.reduceLT, Int.reduceToNat, Int.reduceEq, Int.reduceLT, Int.reduceLE, reduceCtorEq, Nat.reduceMul, Nat.reduceLeDiff]
      rw [wp_ret]
      simp only [retQ, results, resultAll, resultOne, Nat.zero_add, scopeQ, go_sem, ↓evs_eq, Nat.reduceAdd, ↓reduceIte, Nat.reduceEqDiff, Nat.reduceBEq, Nat.reduceBNe, Nat.reduceLT, Int.reduceToNat, Int.reduceEq, Int.reduceLT, Int.reduceLE, reduceCtorEq, Nat.reduceMul, Nat.reduceLeDiff]
      refine ⟨_, (.refl _), ?_⟩
      exact hK _ hq
  · rw [wp_seq]
    refine wp_region_i (by rfl) ?_
    simp only [go_sem, ↓evs_eq, Nat.reduceAdd, ↓reduceIte, Nat.reduceEqDiff, Nat.reduceBEq, Nat.reduceBNe, Nat.reduceLT, Int.reduceToNat, Int.reduceEq, Int.reduceLT, Int.reduceLE, reduceCtorEq, Nat.reduceMul, Nat.reduceLeDiff]
    obtain ⟨K551, hK552, hq⟩ := R.post_cut hq
    refine glossaryref27_lines_call (x0 := x0) hq (fun r264 hq => ?_) (fun v hv => ⟨(hX v hv).1, ?_⟩)
    · replace hq := hK552 _ hq
      simp only [go_sem, ↓evs_eq, Nat.reduceAdd, ↓reduceIte, Nat.reduceEqDiff, Nat.reduceBEq, Nat.reduceBNe, Nat.reduceLT, Int.reduceToNat, Int.reduceEq, Int.reduceLT, Int.reduceLE, reduceCtorEq, Nat.reduceMul, Nat.reduceLeDiff]
      rw [wp_block]
      refine loop_in ?_
      refine Wk.same ?_
      obtain ⟨K444, hK445, hq⟩ := R.post_cut hq
      refine loop_gen (acall_mono hp) (σ := (List UInt8) × Bool × V × V × (List (List UInt8)) × Int × Int × V × V × V × V × V × V × V × V) (fun s => [(0, .str x0), (1, .str x1), (2, .str x2), (6, .str []), (7, .bool false), (8, .str s.1), (9, .bool s.2.1), (11, s.2.2.1), (13, s.2.2.2.1), (15, .sl 1 (List.map V.str s.2.2.2.2.1)), (16, .int .i64 s.2.2.2.2.2.1), (17, .int .i64 s.2.2.2.2.2.2.1), (18, s.2.2.2.2.2.2.2.1), (25, s.2.2.2.2.2.2.2.2.1), (27, s.2.2.2.2.2.2.2.2.2.1), (28, s.2.2.2.2.2.2.2.2.2.2.1), (29, s.2.2.2.2.2.2.2.2.2.2.2.1), (30, s.2.2.2.2.2.2.2.2.2.2.2.2.1), (34, s.2.2.2.2.2.2.2.2.2.2.2.2.2.1), (47, s.2.2.2.2.2.2.2.2.2.2.2.2.2.2), (56, .top)]) (fun s => h) (fun k s => (glossaryref27_At_l1 x1 x2 k s.1 s.2.1 s.2.2.2.2.1 s.2.2.2.2.2.1 s.2.2.2.2.2.2.1).post K444 X) (fun s hs => hs) (fun k549 s hq N hN446 => ?_) _ ([], false, _, _, r264, (List.length r264 : Int), 0, _, _, _, _, _, _, _, _) hq
      obtain ⟨x8_370, x9_370, y11_370, y13_370, x15_370, x16_370, x17_370, y18_370, y25_370, y27_370, y28_370, y29_370, y30_370, y34_370, y47_370⟩ := s
      try dsimp only at hq ⊢
      rw [glossaryref27_At_l1] at hq
      rw [wp_seq]
      refine wp_region_i (by rfl) ?_
      simp only [go_sem, ↓evs_eq, Nat.reduceAdd, ↓reduceIte, Nat.reduceEqDiff, Nat.reduceBEq, Nat.reduceBNe, Nat.reduceLT, Int.reduceToNat, Int.reduceEq, Int.reduceLT, Int.reduceLE, reduceCtorEq, Nat.reduceMul, Nat.reduceLeDiff]
      rw [wp_seq]
      rw [wp_cond]
      simp only [go_sem, ↓evs_eq, Nat.reduceAdd, ↓reduceIte, Nat.reduceEqDiff, Nat.reduceBEq, Nat.reduceBNe, Nat.reduceLT, Int.reduceToNat, Int.reduceEq, Int.reduceLT, Int.reduceLE, reduceCtorEq, Nat.reduceMul, Nat.reduceLeDiff]
      by_cases hc447 : x17_370 < x16_370
      · replace hq := (R.post_if hq).1 hc447
        refine condK_t (congrArg V.bool (decide_eq_true hc447)) ?_
        try simp only [wp_skip, RC, roundK_x, roundK_g, roundK_r]
        refine Wk.same ?_
        try simp only [RC, roundK_x, roundK_g, roundK_r]
        refine seq_gen (acall_mono hp) (σ := (List UInt8) × Bool × V × V × (List (List UInt8)) × Int × Int × V × V × V × V × V × V × V × V) (fun s => [(0, .str x0), (1, .str x1), (2, .str x2), (6, .str []), (7, .bool false), (8, .str s.1), (9, .bool s.2.1), (11, s.2.2.1), (13, s.2.2.2.1), (15, .sl 1 (List.map V.str s.2.2.2.2.1)), (16, .int .i64 s.2.2.2.2.2.1), (17, .int .i64 s.2.2.2.2.2.2.1), (18, s.2.2.2.2.2.2.2.1), (25, s.2.2.2.2.2.2.2.2.1), (27, s.2.2.2.2.2.2.2.2.2.1), (28, s.2.2.2.2.2.2.2.2.2.2.1), (29, s.2.2.2.2.2.2.2.2.2.2.2.1), (30, s.2.2.2.2.2.2.2.2.2.2.2.2.1), (34, s.2.2.2.2.2.2.2.2.2.2.2.2.2.1), (47, s.2.2.2.2.2.2.2.2.2.2.2.2.2.2), (56, .top)]) (fun s => h) (fun s => (glossaryref27_At_j2 (glossaryref27_At_l1 x1 x2 k549) s.1 s.2.1 s.2.2.2.2.1 s.2.2.2.2.2.1 s.2.2.2.2.2.2.1).post K444 X) (fun s hq => ?_) (fun N hN449 => ?_)
        · obtain ⟨x8_448, x9_448, y11_448, y13_448, x15_448, x16_448, x17_448, y18_448, y25_448, y27_448, y28_448, y29_448, y30_448, y34_448, y47_448⟩ := s
          try dsimp only at hq ⊢
          unfold glossaryref27_At_j2 at hq
          refine wp_region_i (by rfl) ?_
          simp only [go_sem, ↓evs_eq, Nat.reduceAdd, ↓reduceIte, Nat.reduceEqDiff, Nat.reduceBEq, Nat.reduceBNe, Nat.reduceLT, Int.reduceToNat, Int.reduceEq, Int.reduceLT, Int.reduceLE, reduceCtorEq, Nat.reduceMul, Nat.reduceLeDiff]
          refine Wk.same ?_
          exact hN446 (x8_448, x9_448, _, _, x15_448, x16_448, (IntKind.wrap .i64 (x17_448 + 1)), _, _, _, _, _, _, _, _) hq
        · rw [wp_block]
          rw [wp_seq]
          refine wp_region_i (by rfl) ?_
          obtain ⟨g452, hq⟩ := R.guard hq
          have e453 := map_gt (f := V.str) (l := x15_370) (i := x17_370) g452
          simp only [e453, go_sem, ↓evs_eq, Nat.reduceAdd, ↓reduceIte, Nat.reduceEqDiff, Nat.reduceBEq, Nat.reduceBNe, Nat.reduceLT, Int.reduceToNat, Int.reduceEq, Int.reduceLT, Int.reduceLE, reduceCtorEq, Nat.reduceMul, Nat.reduceLeDiff]
          repeat (with_reducible refine And.intro (by first | omega | assumption) ?_)
          refine seq_gen (acall_mono hp) (σ := (List UInt8) × Bool × (List UInt8) × V × (List (List UInt8)) × Int × Int × V × V × V × V × V × V × V × V) (fun s => [(0, .str x0), (1, .str x1), (2, .str x2), (6, .str []), (7, .bool false), (8, .str s.1), (9, .bool s.2.1), (11, .str s.2.2.1), (13, s.2.2.2.1), (15, .sl 1 (List.map V.str s.2.2.2.2.1)), (16, .int .i64 s.2.2.2.2.2.1), (17, .int .i64 s.2.2.2.2.2.2.1), (18, s.2.2.2.2.2.2.2.1), (25, s.2.2.2.2.2.2.2.2.1), (27, s.2.2.2.2.2.2.2.2.2.1), (28, s.2.2.2.2.2.2.2.2.2.2.1), (29, s.2.2.2.2.2.2.2.2.2.2.2.1), (30, s.2.2.2.2.2.2.2.2.2.2.2.2.1), (34, s.2.2.2.2.2.2.2.2.2.2.2.2.2.1), (47, s.2.2.2.2.2.2.2.2.2.2.2.2.2.2), (56, .top)]) (fun s => h) (fun s => (glossaryref27_At_j3 (glossaryref27_At_l1 x1 x2 k549) s.1 s.2.1 s.2.2.1 s.2.2.2.2.1 s.2.2.2.2.2.1 s.2.2.2.2.2.2.1).post K444 X) (fun s hq => ?_) (fun N hN457 => ?_)
          · obtain ⟨x8_454, x9_454, x11_454, y13_454, x15_454, x16_454, x17_454, y18_454, y25_454, y27_454, y28_454, y29_454, y30_454, y34_454, y47_454⟩ := s
            try dsimp only at hq ⊢
            unfold glossaryref27_At_j3 at hq
            refine wp_region_i (by rfl) ?_
            obtain ⟨g456, hq⟩ := R.guard hq
            simp only [go_sem, ↓evs_eq, Nat.reduceAdd, ↓reduceIte, Nat.reduceEqDiff, Nat.reduceBEq, Nat.reduceBNe, Nat.reduceLT, Int.reduceToNat, Int.reduceEq, Int.reduceLT, Int.reduceLE, reduceCtorEq, Nat.reduceMul, Nat.reduceLeDiff]
            repeat (with_reducible refine And.intro (by first | omega | assumption) ?_)
            refine Wk.le (EnvLe.cons (.refl _) (EnvLe.cons (.refl _) (EnvLe.cons (.refl _) (EnvLe.cons (.refl _) (EnvLe.cons (.refl _) (EnvLe.cons (.refl _) (EnvLe.cons (.refl _) (EnvLe.cons (.top _) (EnvLe.cons (.refl _) (EnvLe.cons (.refl _) (EnvLe.cons (.refl _) (EnvLe.cons (.refl _) (EnvLe.cons (.refl _) (EnvLe.cons (.refl _) (EnvLe.cons (.refl _) (EnvLe.cons (.refl _) (EnvLe.cons (.refl _) (EnvLe.cons (.refl _) (EnvLe.cons (.refl _) (EnvLe.cons (.refl _) (EnvLe.cons (.refl _) EnvLe.nil))))))))))))))))))))) ?_
            try simp only [RC, roundK_x, roundK_g, roundK_r]
            exact hN449 ((x8_454 ++ x11_454), x9_454, _, _, x15_454, x16_454, x17_454, _, _, _, _, _, _, _, _) hq
          · rw [wp_seq]
            refine wp_region_i (by rfl) ?_
            obtain ⟨g463, hq⟩ := R.guard hq
            obtain ⟨g464, hq⟩ := R.guard hq
            simp only [go_sem, ↓evs_eq, Nat.reduceAdd, ↓reduceIte, Nat.reduceEqDiff, Nat.reduceBEq, Nat.reduceBNe, Nat.reduceLT, Int.reduceToNat, Int.reduceEq, Int.reduceLT, Int.reduceLE, reduceCtorEq, Nat.reduceMul, Nat.reduceLeDiff]
            repeat (with_reducible refine And.intro (by first | omega | assumption) ?_)
            obtain ⟨K547, hK548, hq⟩ := R.post_cut hq
            refine glossaryref27_in_call (x0 := (gt x15_370 x17_370)) (x1 := ((([64, 64, 112, 114, 111, 116, 111, 99, 95, 105, 110, 115, 101, 114, 116, 105, 111, 110, 95, 112, 111, 105, 110, 116, 40]) ++ x1) ++ ([41]))) hq (fun r465 hq => ?_) (fun v hv => ⟨(hX v hv).1, ?_⟩)
            · replace hq := hK548 _ hq
              simp only [go_sem, ↓evs_eq, Nat.reduceAdd, ↓reduceIte, Nat.reduceEqDiff, Nat.reduceBEq, Nat.reduceBNe, Nat.reduceLT, Int.reduceToNat, Int.reduceEq, Int.reduceLT, Int.reduceLE, reduceCtorEq, Nat.reduceMul, Nat.reduceLeDiff]
              rw [wp_cond]
              simp only [go_sem, ↓evs_eq, Nat.reduceAdd, ↓reduceIte, Nat.reduceEqDiff, Nat.reduceBEq, Nat.reduceBNe, Nat.reduceLT, Int.reduceToNat, Int.reduceEq, Int.reduceLT, Int.reduceLE, reduceCtorEq, Nat.reduceMul, Nat.reduceLeDiff]
              by_cases hc466 : r465 = true
              · replace hq := (R.post_if hq).1 hc466
                refine condK_t (congrArg V.bool (hc466)) ?_
                rw [wp_seq]
                refine wp_region_i (by rfl) ?_
                simp only [go_sem, ↓evs_eq, Nat.reduceAdd, ↓reduceIte, Nat.reduceEqDiff, Nat.reduceBEq, Nat.reduceBNe, Nat.reduceLT, Int.reduceToNat, Int.reduceEq, Int.reduceLT, Int.reduceLE, reduceCtorEq, Nat.reduceMul, Nat.reduceLeDiff]
                rw [wp_seq]
                refine wp_region_i (by rfl) ?_
                simp only [go_sem, ↓evs_eq, Nat.reduceAdd, ↓reduceIte, Nat.reduceEqDiff, Nat.reduceBEq, Nat.reduceBNe, Nat.reduceLT, Int.reduceToNat, Int.reduceEq, Int.reduceLT, Int.reduceLE, reduceCtorEq, Nat.reduceMul, Nat.reduceLeDiff]
                obtain ⟨K545, hK546, hq⟩ := R.post_cut hq
                refine glossaryref27_lines_call (x0 := x2) hq (fun r470 hq => ?_) (fun v hv => ⟨(hX v hv).1, ?_⟩)
                · replace hq := hK546 _ hq
                  simp only [go_sem, ↓evs_eq, Nat.reduceAdd, ↓reduceIte, Nat.reduceEqDiff, Nat.reduceBEq, Nat.reduceBNe, Nat.reduceLT, Int.reduceToNat, Int.reduceEq, Int.reduceLT, Int.reduceLE, reduceCtorEq, Nat.reduceMul, Nat.reduceLeDiff]
                  rw [wp_block]
                  refine loop_in ?_
                  refine Wk.le (EnvLe.cons (.refl _) (EnvLe.cons (.refl _) (EnvLe.cons (.refl _) (EnvLe.cons (.refl _) (EnvLe.cons (.refl _) (EnvLe.cons (.refl _) (EnvLe.cons (.refl _) (EnvLe.cons (.refl _) (EnvLe.cons (.refl _) (EnvLe.cons (.refl _) (EnvLe.cons (.refl _) (EnvLe.cons (.refl _) (EnvLe.cons (.top _) (EnvLe.cons (.top _) (EnvLe.cons (.refl _) (EnvLe.cons (.refl _) (EnvLe.cons (.refl _) (EnvLe.cons (.refl _) (EnvLe.cons (.refl _) (EnvLe.cons (.refl _) (EnvLe.cons (.refl _) EnvLe.nil))))))))))))))))))))) ?_
                  obtain ⟨K517, hK518, hq⟩ := R.post_cut hq
                  refine loop_gen (acall_mono hp) (σ := (List UInt8) × (List UInt8) × V × (List (List UInt8)) × Int × Int × V × V × (List (List UInt8)) × Int × Int × V × V × V) (fun s => [(0, .str x0), (1, .str x1), (2, .str x2), (6, .str []), (7, .bool false), (8, .str s.1), (9, .bool true), (11, .str s.2.1), (13, s.2.2.1), (15, .sl 1 (List.map V.str s.2.2.2.1)), (16, .int .i64 s.2.2.2.2.1), (17, .int .i64 s.2.2.2.2.2.1), (18, s.2.2.2.2.2.2.1), (25, s.2.2.2.2.2.2.2.1), (27, .sl 1 (List.map V.str s.2.2.2.2.2.2.2.2.1)), (28, .int .i64 s.2.2.2.2.2.2.2.2.2.1), (29, .int .i64 s.2.2.2.2.2.2.2.2.2.2.1), (30, s.2.2.2.2.2.2.2.2.2.2.2.1), (34, s.2.2.2.2.2.2.2.2.2.2.2.2.1), (47, s.2.2.2.2.2.2.2.2.2.2.2.2.2), (56, .top)]) (fun s => h) (fun k s => (glossaryref27_At_l4 k s.1 s.2.1 s.2.2.2.1 s.2.2.2.2.1 s.2.2.2.2.2.1 s.2.2.2.2.2.2.2.2.1 s.2.2.2.2.2.2.2.2.2.1 s.2.2.2.2.2.2.2.2.2.2.1).post K517 X) (fun s hs => hs) (fun k543 s hq N hN519 => ?_) _ (x8_370, (gt x15_370 x17_370), _, x15_370, x16_370, x17_370, _, _, r470, (List.length r470 : Int), 0, _, _, _) hq
                  obtain ⟨x8_494, x11_494, y13_494, x15_494, x16_494, x17_494, y18_494, y25_494, x27_494, x28_494, x29_494, y30_494, y34_494, y47_494⟩ := s
                  try dsimp only at hq ⊢
                  rw [glossaryref27_At_l4] at hq
                  rw [wp_seq]
                  refine wp_region_i (by rfl) ?_
                  simp only [go_sem, ↓evs_eq, Nat.reduceAdd, ↓reduceIte, Nat.reduceEqDiff, Nat.reduceBEq, Nat.reduceBNe, Nat.reduceLT, Int.reduceToNat, Int.reduceEq, Int.reduceLT, Int.reduceLE, reduceCtorEq, Nat.reduceMul, Nat.reduceLeDiff]
                  rw [wp_seq]
                  rw [wp_cond]
                  simp only [go_sem, ↓evs_eq, Nat.reduceAdd, ↓reduceIte, Nat.reduceEqDiff, Nat.reduceBEq, Nat.reduceBNe, Nat.reduceLT, Int.reduceToNat, Int.reduceEq, Int.reduceLT, Int.reduceLE, reduceCtorEq, Nat.reduceMul, Nat.reduceLeDiff]
                  by_cases hc520 : x29_494 < x28_494
                  · replace hq := (R.post_if hq).1 hc520
                    refine condK_t (congrArg V.bool (decide_eq_true hc520)) ?_
                    try simp only [wp_skip, RC, roundK_x, roundK_g, roundK_r]
                    refine Wk.same ?_
                    try simp only [RC, roundK_x, roundK_g, roundK_r]
                    rw [wp_seq]
                    rw [wp_block]
                    rw [wp_seq]
                    refine wp_region_i (by rfl) ?_
                    obtain ⟨g523, hq⟩ := R.guard hq
                    have e524 := map_gt (f := V.str) (l := x27_494) (i := x29_494) g523
                    simp only [e524, go_sem, ↓evs_eq, Nat.reduceAdd, ↓reduceIte, Nat.reduceEqDiff, Nat.reduceBEq, Nat.reduceBNe, Nat.reduceLT, Int.reduceToNat, Int.reduceEq, Int.reduceLT, Int.reduceLE, reduceCtorEq, Nat.reduceMul, Nat.reduceLeDiff]
                    repeat (with_reducible refine And.intro (by first | omega | assumption) ?_)
                    refine seq_gen (acall_mono hp) (σ := (List UInt8) × (List UInt8) × (List UInt8) × (List (List UInt8)) × Int × Int × V × V × (List (List UInt8)) × Int × Int × V × V × V) (fun s => [(0, .str x0), (1, .str x1), (2, .str x2), (6, .str []), (7, .bool false), (8, .str s.1), (9, .bool true), (11, .str s.2.1), (13, .str s.2.2.1), (15, .sl 1 (List.map V.str s.2.2.2.1)), (16, .int .i64 s.2.2.2.2.1), (17, .int .i64 s.2.2.2.2.2.1), (18, s.2.2.2.2.2.2.1), (25, s.2.2.2.2.2.2.2.1), (27, .sl 1 (List.map V.str s.2.2.2.2.2.2.2.2.1)), (28, .int .i64 s.2.2.2.2.2.2.2.2.2.1), (29, .int .i64 s.2.2.2.2.2.2.2.2.2.2.1), (30, s.2.2.2.2.2.2.2.2.2.2.2.1), (34, s.2.2.2.2.2.2.2.2.2.2.2.2.1), (47, s.2.2.2.2.2.2.2.2.2.2.2.2.2), (56, .top)]) (fun s => h) (fun s => (glossaryref27_At_j5 (glossaryref27_At_l4 k543) s.1 s.2.1 s.2.2.1 s.2.2.2.1 s.2.2.2.2.1 s.2.2.2.2.2.1 s.2.2.2.2.2.2.2.2.1 s.2.2.2.2.2.2.2.2.2.1 s.2.2.2.2.2.2.2.2.2.2.1).post K517 X) (fun s hq => ?_) (fun N hN533 => ?_)
                    · obtain ⟨x8_525, x11_525, x13_525, x15_525, x16_525, x17_525, y18_525, y25_525, x27_525, x28_525, x29_525, y30_525, y34_525, y47_525⟩ := s
                      try dsimp only at hq ⊢
                      unfold glossaryref27_At_j5 at hq
                      rw [wp_seq]
                      refine wp_region_i (by rfl) ?_
                      obtain ⟨g527, hq⟩ := R.guard hq
                      simp only [go_sem, ↓evs_eq, Nat.reduceAdd, ↓reduceIte, Nat.reduceEqDiff, Nat.reduceBEq, Nat.reduceBNe, Nat.reduceLT, Int.reduceToNat, Int.reduceEq, Int.reduceLT, Int.reduceLE, reduceCtorEq, Nat.reduceMul, Nat.reduceLeDiff]
                      repeat (with_reducible refine And.intro (by first | omega | assumption) ?_)
                      rw [wp_seq]
                      refine wp_region_i (by rfl) ?_
                      obtain ⟨g529, hq⟩ := R.guard hq
                      simp only [go_sem, ↓evs_eq, Nat.reduceAdd, ↓reduceIte, Nat.reduceEqDiff, Nat.reduceBEq, Nat.reduceBNe, Nat.reduceLT, Int.reduceToNat, Int.reduceEq, Int.reduceLT, Int.reduceLE, reduceCtorEq, Nat.reduceMul, Nat.reduceLeDiff]
                      repeat (with_reducible refine And.intro (by first | omega | assumption) ?_)
                      rw [wp_cond]
                      simp only [go_sem, ↓evs_eq, Nat.reduceAdd, ↓reduceIte, Nat.reduceEqDiff, Nat.reduceBEq, Nat.reduceBNe, Nat.reduceLT, Int.reduceToNat, Int.reduceEq, Int.reduceLT, Int.reduceLE, reduceCtorEq, Nat.reduceMul, Nat.reduceLeDiff]
                      by_cases hc530 : ((List.getD x13_525 (Int.toNat (IntKind.wrap .i64 ((List.length x13_525 : Int) - 1))) 0).toNat : Int) = 10
                      · replace hq := (R.post_if hq).1 hc530
                        refine condK_f (congrArg (fun b => V.bool (!b)) (decide_eq_true hc530)) ?_
                        try simp only [wp_skip, RC, roundK_x, roundK_g, roundK_r]
                        refine Wk.same ?_
                        try simp only [RC, roundK_x, roundK_g, roundK_r]
                        refine Wk.same ?_
                        try simp only [RC, roundK_x, roundK_g, roundK_r]
                        refine wp_region_i (by rfl) ?_
                        simp only [go_sem, ↓evs_eq, Nat.reduceAdd, ↓reduceIte, Nat.reduceEqDiff, Nat.reduceBEq, Nat.reduceBNe, Nat.reduceLT, Int.reduceToNat, Int.reduceEq, Int.reduceLT, Int.reduceLE, reduceCtorEq, Nat.reduceMul, Nat.reduceLeDiff]
                        refine Wk.le (EnvLe.cons (.refl _) (EnvLe.cons (.refl _) (EnvLe.cons (.refl _) (EnvLe.cons (.refl _) (EnvLe.cons (.refl _) (EnvLe.cons (.refl _) (EnvLe.cons (.refl _) (EnvLe.cons (.refl _) (EnvLe.cons (.top _) (EnvLe.cons (.refl _) (EnvLe.cons (.refl _) (EnvLe.cons (.refl _) (EnvLe.cons (.refl _) (EnvLe.cons (.refl _) (EnvLe.cons (.refl _) (EnvLe.cons (.refl _) (EnvLe.cons (.refl _) (EnvLe.cons (.refl _) (EnvLe.cons (.refl _) (EnvLe.cons (.top _) (EnvLe.cons (.refl _) EnvLe.nil))))))))))))))))))))) ?_
                        exact hN519 ((x8_525 ++ x13_525), x11_525, _, x15_525, x16_525, x17_525, _, _, x27_525, x28_525, (IntKind.wrap .i64 (x29_525 + 1)), _, _, _) hq
                      · replace hq := (R.post_if hq).2 hc530
                        refine condK_t (congrArg (fun b => V.bool (!b)) (decide_eq_false hc530)) ?_
                        refine wp_region_i (by rfl) ?_
                        obtain ⟨g532, hq⟩ := R.guard hq
                        simp only [go_sem, ↓evs_eq, Nat.reduceAdd, ↓reduceIte, Nat.reduceEqDiff, Nat.reduceBEq, Nat.reduceBNe, Nat.reduceLT, Int.reduceToNat, Int.reduceEq, Int.reduceLT, Int.reduceLE, reduceCtorEq, Nat.reduceMul, Nat.reduceLeDiff]
                        repeat (with_reducible refine And.intro (by first | omega | assumption) ?_)
                        refine Wk.same ?_
                        try simp only [RC, roundK_x, roundK_g, roundK_r]
                        refine Wk.same ?_
                        try simp only [RC, roundK_x, roundK_g, roundK_r]
                        refine wp_region_i (by rfl) ?_
                        simp only [go_sem, ↓evs_eq, Nat.reduceAdd, ↓reduceIte, Nat.reduceEqDiff, Nat.reduceBEq, Nat.reduceBNe, Nat.reduceLT, Int.reduceToNat, Int.reduceEq, Int.reduceLT, Int.reduceLE, reduceCtorEq, Nat.reduceMul, Nat.reduceLeDiff]
                        refine Wk.le (EnvLe.cons (.refl _) (EnvLe.cons (.refl _) (EnvLe.cons (.refl _) (EnvLe.cons (.refl _) (EnvLe.cons (.refl _) (EnvLe.cons (.refl _) (EnvLe.cons (.refl _) (EnvLe.cons (.refl _) (EnvLe.cons (.top _) (EnvLe.cons (.refl _) (EnvLe.cons (.refl _) (EnvLe.cons (.refl _) (EnvLe.cons (.refl _) (EnvLe.cons (.refl _) (EnvLe.cons (.refl _) (EnvLe.cons (.refl _) (EnvLe.cons (.refl _) (EnvLe.cons (.refl _) (EnvLe.cons (.refl _) (EnvLe.cons (.top _) (EnvLe.cons (.refl _) EnvLe.nil))))))))))))))))))))) ?_
                        exact hN519 (((x8_525 ++ x13_525) ++ ([10])), x11_525, _, x15_525, x16_525, x17_525, _, _, x27_525, x28_525, (IntKind.wrap .i64 (x29_525 + 1)), _, _, _) hq
                    · rw [wp_seq]
                      refine wp_region_i (by rfl) ?_
                      simp only [go_sem, ↓evs_eq, Nat.reduceAdd, ↓reduceIte, Nat.reduceEqDiff, Nat.reduceBEq, Nat.reduceBNe, Nat.reduceLT, Int.reduceToNat, Int.reduceEq, Int.reduceLT, Int.reduceLE, reduceCtorEq, Nat.reduceMul, Nat.reduceLeDiff]
                      rw [wp_cond]
                      simp only [go_sem, ↓evs_eq, Nat.reduceAdd, ↓reduceIte, Nat.reduceEqDiff, Nat.reduceBEq, Nat.reduceBNe, Nat.reduceLT, Int.reduceToNat, Int.reduceEq, Int.reduceLT, Int.reduceLE, reduceCtorEq, Nat.reduceMul, Nat.reduceLeDiff]
                      by_cases hc534 : (gt x27_494 x29_494) = ([10])
                      · replace hq := (R.post_if hq).1 hc534
                        refine condK_f (congrArg (fun b => V.bool (!b)) (decide_eq_true hc534)) ?_
                        try simp only [wp_skip, RC, roundK_x, roundK_g, roundK_r]
                        refine Wk.le (EnvLe.cons (.refl _) (EnvLe.cons (.refl _) (EnvLe.cons (.refl _) (EnvLe.cons (.refl _) (EnvLe.cons (.refl _) (EnvLe.cons (.refl _) (EnvLe.cons (.refl _) (EnvLe.cons (.refl _) (EnvLe.cons (.refl _) (EnvLe.cons (.refl _) (EnvLe.cons (.refl _) (EnvLe.cons (.refl _) (EnvLe.cons (.refl _) (EnvLe.cons (.refl _) (EnvLe.cons (.refl _) (EnvLe.cons (.refl _) (EnvLe.cons (.refl _) (EnvLe.cons (.top _) (EnvLe.cons (.top _) (EnvLe.cons (.refl _) (EnvLe.cons (.refl _) EnvLe.nil))))))))))))))))))))) ?_
                        try simp only [RC, roundK_x, roundK_g, roundK_r]
                        exact hN533 (x8_494, x11_494, (gt x27_494 x29_494), x15_494, x16_494, x17_494, _, _, x27_494, x28_494, x29_494, _, _, _) hq
                      · replace hq := (R.post_if hq).2 hc534
                        refine condK_t (congrArg (fun b => V.bool (!b)) (decide_eq_false hc534)) ?_
                        refine wp_region_i (by rfl) ?_
                        simp only [go_sem, ↓evs_eq, Nat.reduceAdd, ↓reduceIte, Nat.reduceEqDiff, Nat.reduceBEq, Nat.reduceBNe, Nat.reduceLT, Int.reduceToNat, Int.reduceEq, Int.reduceLT, Int.reduceLE, reduceCtorEq, Nat.reduceMul, Nat.reduceLeDiff]
                        obtain ⟨K541, hK542, hq⟩ := R.post_cut hq
                        refine glossaryref27_blanks_call (x0 := x11_494) hq (fun r539 hq => ?_) (fun v hv => ⟨(hX v hv).1, ?_⟩)
                        · replace hq := hK542 _ hq
                          obtain ⟨g540, hq⟩ := R.guard hq
                          simp only [go_sem, ↓evs_eq, Nat.reduceAdd, ↓reduceIte, Nat.reduceEqDiff, Nat.reduceBEq, Nat.reduceBNe, Nat.reduceLT, Int.reduceToNat, Int.reduceEq, Int.reduceLT, Int.reduceLE, reduceCtorEq, Nat.reduceMul, Nat.reduceLeDiff]
                          repeat (with_reducible refine And.intro (by first | omega | assumption) ?_)
                          refine Wk.le (EnvLe.cons (.refl _) (EnvLe.cons (.refl _) (EnvLe.cons (.refl _) (EnvLe.cons (.refl _) (EnvLe.cons (.refl _) (EnvLe.cons (.refl _) (EnvLe.cons (.refl _) (EnvLe.cons (.refl _) (EnvLe.cons (.refl _) (EnvLe.cons (.refl _) (EnvLe.cons (.refl _) (EnvLe.cons (.refl _) (EnvLe.cons (.refl _) (EnvLe.cons (.refl _) (EnvLe.cons (.refl _) (EnvLe.cons (.refl _) (EnvLe.cons (.refl _) (EnvLe.cons (.top _) (EnvLe.cons (.top _) (EnvLe.cons (.refl _) (EnvLe.cons (.refl _) EnvLe.nil))))))))))))))))))))) ?_
                          try simp only [RC, roundK_x, roundK_g, roundK_r]
                          exact hN533 ((x8_494 ++ r539), x11_494, (gt x27_494 x29_494), x15_494, x16_494, x17_494, _, _, x27_494, x28_494, x29_494, _, _, _) hq
                        · simp only [RC, roundK_x, roundK_g, roundK_r, scopeQ, retQ, ↓reduceIte, Bool.false_eq_true]
                          exact (hX _ hv).2
                  · replace hq := (R.post_if hq).2 hc520
                    refine condK_f (congrArg V.bool (decide_eq_false hc520)) ?_
                    rw [wp_exit]
                    try simp only [↓reduceIte, Nat.reduceEqDiff, reduceCtorEq, if_false, if_true, eq_self, Nat.succ_ne_self, RC, roundK_x, roundK_g, roundK_r]
                    replace hq := hK518 _ hq
                    try dsimp only at hq
                    refine Wk.le (EnvLe.cons (.refl _) (EnvLe.cons (.refl _) (EnvLe.cons (.refl _) (EnvLe.cons (.refl _) (EnvLe.cons (.refl _) (EnvLe.cons (.refl _) (EnvLe.cons (.refl _) (EnvLe.cons (.refl _) (EnvLe.cons (.refl _) (EnvLe.cons (.refl _) (EnvLe.cons (.refl _) (EnvLe.cons (.refl _) (EnvLe.cons (.refl _) (EnvLe.cons (.refl _) (EnvLe.cons (.top _) (EnvLe.cons (.top _) (EnvLe.cons (.top _) (EnvLe.cons (.top _) (EnvLe.cons (.refl _) (EnvLe.cons (.refl _) (EnvLe.cons (.refl _) EnvLe.nil))))))))))))))))))))) ?_
                    try simp only [RC, roundK_x, roundK_g, roundK_r]
                    refine Wk.same ?_
                    try simp only [RC, roundK_x, roundK_g, roundK_r]
                    exact hN457 (x8_494, true, x11_494, _, x15_494, x16_494, x17_494, _, _, _, _, _, _, _, _) hq
                · simp only [RC, roundK_x, roundK_g, roundK_r, scopeQ, retQ, ↓reduceIte, Bool.false_eq_true]
                  exact (hX _ hv).2
              · replace hq := (R.post_if hq).2 hc466
                replace hc466 := eq_false_of_ne_true hc466
                refine condK_f (congrArg V.bool (hc466)) ?_
                try simp only [wp_skip, RC, roundK_x, roundK_g, roundK_r]
                refine Wk.le (EnvLe.cons (.refl _) (EnvLe.cons (.refl _) (EnvLe.cons (.refl _) (EnvLe.cons (.refl _) (EnvLe.cons (.refl _) (EnvLe.cons (.refl _) (EnvLe.cons (.refl _) (EnvLe.cons (.refl _) (EnvLe.cons (.refl _) (EnvLe.cons (.refl _) (EnvLe.cons (.refl _) (EnvLe.cons (.refl _) (EnvLe.cons (.top _) (EnvLe.cons (.top _) (EnvLe.cons (.refl _) (EnvLe.cons (.refl _) (EnvLe.cons (.refl _) (EnvLe.cons (.refl _) (EnvLe.cons (.refl _) (EnvLe.cons (.refl _) (EnvLe.cons (.refl _) EnvLe.nil))))))))))))))))))))) ?_
                try simp only [RC, roundK_x, roundK_g, roundK_r]
                exact hN457 (x8_370, x9_370, (gt x15_370 x17_370), _, x15_370, x16_370, x17_370, _, _, _, _, _, _, _, _) hq
            · simp only [RC, roundK_x, roundK_g, roundK_r, scopeQ, retQ, ↓reduceIte, Bool.false_eq_true]
              exact (hX _ hv).2
      · replace hq := (R.post_if hq).2 hc447
        refine condK_f (congrArg V.bool (decide_eq_false hc447)) ?_
        rw [wp_exit]
        try simp only [↓reduceIte, Nat.reduceEqDiff, reduceCtorEq, if_false, if_true, eq_self, Nat.succ_ne_self, RC, roundK_x, roundK_g, roundK_r]
        replace hq := hK445 _ hq
        try dsimp only at hq
        refine Wk.le (EnvLe.cons (.refl _) (EnvLe.cons (.refl _) (EnvLe.cons (.refl _) (EnvLe.cons (.refl _) (EnvLe.cons (.refl _) (EnvLe.cons (.refl _) (EnvLe.cons (.refl _) (EnvLe.cons (.refl _) (EnvLe.cons (.refl _) (EnvLe.cons (.top _) (EnvLe.cons (.top _) (EnvLe.cons (.top _) (EnvLe.cons (.top _) (EnvLe.cons (.refl _) (EnvLe.cons (.refl _) (EnvLe.cons (.refl _) (EnvLe.cons (.refl _) (EnvLe.cons (.refl _) (EnvLe.cons (.refl _) (EnvLe.cons (.refl _) (EnvLe.cons (.refl _) EnvLe.nil))))))))))))))))))))) ?_
        try simp only [RC, roundK_x, roundK_g, roundK_r]
        exact hN260 (x8_370, x9_370, _, _, _, _, _, _, _, _, _, _, _, _, _) hq
    · simp only [RC, roundK_x, roundK_g, roundK_r, scopeQ, retQ, ↓reduceIte, Bool.false_eq_true]
      exact (hX _ hv).2

def glossarylaw27_InsertAt (x0 : List UInt8) (x1 : List UInt8) (x2 : List UInt8) : R (Bool) :=
  (glossarylaw27_awake).bind fun r11 => if r11 = true then ((if (500 : Int) < (List.length x0 : Int) then (R.ok true) else (if (200 : Int) < (List.length x1 : Int) then (R.ok true) else (R.ok (decide ((500 : Int) < (List.length x2 : Int)))))).bind fun x25m19 => if x25m19 = true then (R.ok true) else ((insert_At x0 x1 x2).bind fun r29 => (glossaryref27_At x0 x1 x2).bind fun r33 => (if r29.1 = r33.1 then (R.ok (r29.2 == r33.2)) else (R.ok false)).bind fun x6m35 => R.ok x6m35)) else (R.ok false)
theorem glossarylaw27_InsertAt_call {h : H} {x0 : List UInt8} {x1 : List UInt8} {x2 : List UInt8} {Q : Out → H → Prop} {KK : (Bool) → Prop} {X : V → Prop} (hq : (glossarylaw27_InsertAt x0 x1 x2).post KK X) (hK : ∀ r, KK r → Q (.ret (.bool r)) h) (hX : ∀ v, X v → V.Cl 0 v ∧ Q (.panic v) h) : CA qprim 3 [.str x0, .str x1, .str x2] h Q := by
  refine acalln hp Tryd.func3 rfl (by kernel_rfl) (n := 48) rfl (rs := [.tmp 6]) rfl [0, 1, 2, 6, 7, 8, 9, 10, 12, 25] [] false (by simp) ?_
  unfold glossarylaw27_InsertAt at hq
  simp only [initEnv, List.map_cons, List.map_nil, List.getD_cons_zero, List.getD_cons_succ, List.getD_nil, V.demote]
  rw [wp_seq]
  refine wp_region_i (by rfl) ?_
  simp only [go_sem, ↓evs_eq, Nat.reduceAdd, ↓reduceIte, Nat.reduceEqDiff, Nat.reduceBEq, Nat.reduceBNe, Nat.reduceLT, Int.reduceToNat, Int.reduceEq, Int.reduceLT, Int.reduceLE, reduceCtorEq, Nat.reduceMul, Nat.reduceLeDiff]
  rw [wp_seq]
  rw [wp_seq]
  refine wp_region_i (by rfl) ?_
  simp only [go_sem, ↓evs_eq, Nat.reduceAdd, ↓reduceIte, Nat.reduceEqDiff, Nat.reduceBEq, Nat.reduceBNe, Nat.reduceLT, Int.reduceToNat, Int.reduceEq, Int.reduceLT, Int.reduceLE, reduceCtorEq, Nat.reduceMul, Nat.reduceLeDiff]
  obtain ⟨K44, hK45, hq⟩ := R.post_cut hq
  refine glossarylaw27_awake_call hq (fun r11 hq => ?_) (fun v hv => ⟨(hX v hv).1, ?_⟩)
  · replace hq := hK45 _ hq
    simp only [go_sem, ↓evs_eq, Nat.reduceAdd, ↓reduceIte, Nat.reduceEqDiff, Nat.reduceBEq, Nat.reduceBNe, Nat.reduceLT, Int.reduceToNat, Int.reduceEq, Int.reduceLT, Int.reduceLE, reduceCtorEq, Nat.reduceMul, Nat.reduceLeDiff]
    rw [wp_cond]
    simp only [go_sem, ↓evs_eq, Nat.reduceAdd, ↓reduceIte, Nat.reduceEqDiff, Nat.reduceBEq, Nat.reduceBNe, Nat.reduceLT, Int.reduceToNat, Int.reduceEq, Int.reduceLT, Int.reduceLE, reduceCtorEq, Nat.reduceMul, Nat.reduceLeDiff]
    by_cases hc12 : r11 = true
    · replace hq := (R.post_if hq).1 hc12
      refine condK_f (congrArg (fun b => V.bool (!b)) (hc12)) ?_
      try simp only [wp_skip, RC, roundK_x, roundK_g, roundK_r]
      refine Wk.same ?_
      try simp only [RC, roundK_x, roundK_g, roundK_r]
      rw [wp_seq]
      obtain ⟨K20, hK21, hq⟩ := R.post_cut hq
      refine seq_gen (acall_mono hp) (σ := Bool) (fun s => [(0, .str x0), (1, .str x1), (2, .str x2), (6, .bool false), (7, .top), (8, .top), (9, .top), (10, .top), (12, .bool (!r11)), (25, .bool s)]) (fun s => h) (fun s => K20 s) (fun x25m19 hq => ?_) (fun N hN22 => ?_)
      · replace hq := hK21 _ hq
        try dsimp only at hq ⊢
        rw [wp_cond]
        simp only [go_sem, ↓evs_eq, Nat.reduceAdd, ↓reduceIte, Nat.reduceEqDiff, Nat.reduceBEq, Nat.reduceBNe, Nat.reduceLT, Int.reduceToNat, Int.reduceEq, Int.reduceLT, Int.reduceLE, reduceCtorEq, Nat.reduceMul, Nat.reduceLeDiff]
        by_cases hc25 : x25m19 = true
        · replace hq := (R.post_if hq).1 hc25
          refine condK_t (congrArg V.bool (hc25)) ?_
          rw [wp_seq]
          refine wp_region_i (by rfl) ?_
          simp only [go_sem, ↓evs_eq, Nat.reduceAdd, ↓reduceIte, Nat.reduceEqDiff, Nat.reduceBEq, Nat.reduceBNe, Nat.reduceLT, Int.reduceToNat, Int.reduceEq, Int.reduceLT, Int.reduceLE, reduceCtorEq, Nat.reduceMul, Nat.reduceLeDiff]
          rw [wp_ret]
          simp only [retQ, results, resultAll, resultOne, Nat.zero_add, scopeQ, go_sem, ↓evs_eq, Nat.reduceAdd, ↓reduceIte, Nat.reduceEqDiff, Nat.reduceBEq, Nat.reduceBNe, Nat.reduceLT, Int.reduceToNat, Int.reduceEq, Int.reduceLT, Int.reduceLE, reduceCtorEq, Nat.reduceMul, Nat.reduceLeDiff]
          refine ⟨_, (.refl _), ?_⟩
          exact hK _ hq
        · replace hq := (R.post_if hq).2 hc25
          replace hc25 := eq_false_of_ne_true hc25
          refine condK_f (congrArg V.bool (hc25)) ?_
          try simp only [wp_skip, RC, roundK_x, roundK_g, roundK_r]
          refine Wk.same ?_
          try simp only [RC, roundK_x, roundK_g, roundK_r]
          rw [wp_seq]
          refine wp_region_i (by rfl) ?_
          simp only [go_sem, ↓evs_eq, Nat.reduceAdd, ↓reduceIte, Nat.reduceEqDiff, Nat.reduceBEq, Nat.reduceBNe, Nat.reduceLT, Int.reduceToNat, Int.reduceEq, Int.reduceLT, Int.reduceLE, reduceCtorEq, Nat.reduceMul, Nat.reduceLeDiff]
          obtain ⟨K42, hK43, hq⟩ := R.post_cut hq
          refine insert_At_call (x0 := x0) (x1 := x1) (x2 := x2) hq (fun r29 hq => ?_) (fun v hv => ⟨(hX v hv).1, ?_⟩)
          · replace hq := hK43 _ hq
            simp only [go_sem, ↓evs_eq, Nat.reduceAdd, ↓reduceIte, Nat.reduceEqDiff, Nat.reduceBEq, Nat.reduceBNe, Nat.reduceLT, Int.reduceToNat, Int.reduceEq, Int.reduceLT, Int.reduceLE, reduceCtorEq, Nat.reduceMul, Nat.reduceLeDiff]
            rw [wp_seq]
            refine wp_region_i (by rfl) ?_
            simp only [go_sem, ↓evs_eq, Nat.reduceAdd, ↓reduceIte, Nat.reduceEqDiff, Nat.reduceBEq, Nat.reduceBNe, Nat.reduceLT, Int.reduceToNat, Int.reduceEq, Int.reduceLT, Int.reduceLE, reduceCtorEq, Nat.reduceMul, Nat.reduceLeDiff]
            obtain ⟨K40, hK41, hq⟩ := R.post_cut hq
            refine glossaryref27_At_call (x0 := x0) (x1 := x1) (x2 := x2) hq (fun r33 hq => ?_) (fun v hv => ⟨(hX v hv).1, ?_⟩)
            · replace hq := hK41 _ hq
              simp only [go_sem, ↓evs_eq, Nat.reduceAdd, ↓reduceIte, Nat.reduceEqDiff, Nat.reduceBEq, Nat.reduceBNe, Nat.reduceLT, Int.reduceToNat, Int.reduceEq, Int.reduceLT, Int.reduceLE, reduceCtorEq, Nat.reduceMul, Nat.reduceLeDiff]
              obtain ⟨K36, hK37, hq⟩ := R.post_cut hq
              refine seq_gen (acall_mono hp) (σ := Bool) (fun s => [(0, .str x0), (1, .str x1), (2, .str x2), (6, .bool s), (7, .str r29.1), (8, .bool r29.2), (9, .str r33.1), (10, .bool r33.2), (12, .bool (!r11)), (25, .bool x25m19)]) (fun s => h) (fun s => K36 s) (fun x6m35 hq => ?_) (fun N hN38 => ?_)
              · replace hq := hK37 _ hq
                try dsimp only at hq ⊢
                rw [wp_ret]
                simp only [retQ, results, resultAll, resultOne, Nat.zero_add, scopeQ, go_sem, ↓evs_eq, Nat.reduceAdd, ↓reduceIte, Nat.reduceEqDiff, Nat.reduceBEq, Nat.reduceBNe, Nat.reduceLT, Int.reduceToNat, Int.reduceEq, Int.reduceLT, Int.reduceLE, reduceCtorEq, Nat.reduceMul, Nat.reduceLeDiff]
                refine ⟨_, (.refl _), ?_⟩
                exact hK _ hq
              · refine wp_region_i (by rfl) ?_
                simp only [go_sem, ↓evs_eq, Nat.reduceAdd, ↓reduceIte, Nat.reduceEqDiff, Nat.reduceBEq, Nat.reduceBNe, Nat.reduceLT, Int.reduceToNat, Int.reduceEq, Int.reduceLT, Int.reduceLE, reduceCtorEq, Nat.reduceMul, Nat.reduceLeDiff]
                by_cases hc39 : r29.1 = r33.1
                · replace hq := (R.post_if hq).1 hc39
                  simp only [decide_eq_true hc39, go_sem, ↓evs_eq, Nat.reduceAdd, ↓reduceIte, Nat.reduceEqDiff, Nat.reduceBEq, Nat.reduceBNe, Nat.reduceLT, Int.reduceToNat, Int.reduceEq, Int.reduceLT, Int.reduceLE, reduceCtorEq, Nat.reduceMul, Nat.reduceLeDiff]
                  exact hN38 (r29.2 == r33.2) hq
                · replace hq := (R.post_if hq).2 hc39
                  simp only [decide_eq_false hc39, go_sem, ↓evs_eq, Nat.reduceAdd, ↓reduceIte, Nat.reduceEqDiff, Nat.reduceBEq, Nat.reduceBNe, Nat.reduceLT, Int.reduceToNat, Int.reduceEq, Int.reduceLT, Int.reduceLE, reduceCtorEq, Nat.reduceMul, Nat.reduceLeDiff]
                  exact hN38 false hq
            · simp only [RC, roundK_x, roundK_g, roundK_r, scopeQ, retQ, ↓reduceIte, Bool.false_eq_true]
              exact (hX _ hv).2
          · simp only [RC, roundK_x, roundK_g, roundK_r, scopeQ, retQ, ↓reduceIte, Bool.false_eq_true]
            exact (hX _ hv).2
      · refine wp_region_i (by rfl) ?_
        simp only [go_sem, ↓evs_eq, Nat.reduceAdd, ↓reduceIte, Nat.reduceEqDiff, Nat.reduceBEq, Nat.reduceBNe, Nat.reduceLT, Int.reduceToNat, Int.reduceEq, Int.reduceLT, Int.reduceLE, reduceCtorEq, Nat.reduceMul, Nat.reduceLeDiff]
        by_cases hc23 : (500 : Int) < (List.length x0 : Int)
        · replace hq := (R.post_if hq).1 hc23
          simp only [decide_eq_true hc23, go_sem, ↓evs_eq, Nat.reduceAdd, ↓reduceIte, Nat.reduceEqDiff, Nat.reduceBEq, Nat.reduceBNe, Nat.reduceLT, Int.reduceToNat, Int.reduceEq, Int.reduceLT, Int.reduceLE, reduceCtorEq, Nat.reduceMul, Nat.reduceLeDiff]
          exact hN22 true hq
        · replace hq := (R.post_if hq).2 hc23
          simp only [decide_eq_false hc23, go_sem, ↓evs_eq, Nat.reduceAdd, ↓reduceIte, Nat.reduceEqDiff, Nat.reduceBEq, Nat.reduceBNe, Nat.reduceLT, Int.reduceToNat, Int.reduceEq, Int.reduceLT, Int.reduceLE, reduceCtorEq, Nat.reduceMul, Nat.reduceLeDiff]
          by_cases hc24 : (200 : Int) < (List.length x1 : Int)
          · replace hq := (R.post_if hq).1 hc24
            simp only [decide_eq_true hc24, go_sem, ↓evs_eq, Nat.reduceAdd, ↓reduceIte, Nat.reduceEqDiff, Nat.reduceBEq, Nat.reduceBNe, Nat.reduceLT, Int.reduceToNat, Int.reduceEq, Int.reduceLT, Int.reduceLE, reduceCtorEq, Nat.reduceMul, Nat.reduceLeDiff]
            exact hN22 true hq
          · replace hq := (R.post_if hq).2 hc24
            simp only [decide_eq_false hc24, go_sem, ↓evs_eq, Nat.reduceAdd, ↓reduceIte, Nat.reduceEqDiff, Nat.reduceBEq, Nat.reduceBNe, Nat.reduceLT, Int.reduceToNat, Int.reduceEq, Int.reduceLT, Int.reduceLE, reduceCtorEq, Nat.reduceMul, Nat.reduceLeDiff]
            exact hN22 (decide ((500 : Int) < (List.length x2 : Int))) hq
    · replace hq := (R.post_if hq).2 hc12
      replace hc12 := eq_false_of_ne_true hc12
      refine condK_t (congrArg (fun b => V.bool (!b)) (hc12)) ?_
      rw [wp_seq]
      refine wp_region_i (by rfl) ?_
      simp only [go_sem, ↓evs_eq, Nat.reduceAdd, ↓reduceIte, Nat.reduceEqDiff, Nat.reduceBEq, Nat.reduceBNe, Nat.reduceLT, Int.reduceToNat, Int.reduceEq, Int.reduceLT, Int.reduceLE, reduceCtorEq, Nat.reduceMul, Nat.reduceLeDiff]
      rw [wp_ret]
      simp only [retQ, results, resultAll, resultOne, Nat.zero_add, scopeQ, go_sem, ↓evs_eq, Nat.reduceAdd, ↓reduceIte, Nat.reduceEqDiff, Nat.reduceBEq, Nat.reduceBNe, Nat.reduceLT, Int.reduceToNat, Int.reduceEq, Int.reduceLT, Int.reduceLE, reduceCtorEq, Nat.reduceMul, Nat.reduceLeDiff]
      refine ⟨_, (.refl _), ?_⟩
      exact hK _ hq
  · simp only [RC, roundK_x, roundK_g, roundK_r, scopeQ, retQ, ↓reduceIte, Bool.false_eq_true]
    exact (hX _ hv).2
end Go.Proofs.YtmjohmefhikelaaDoor.Pv
