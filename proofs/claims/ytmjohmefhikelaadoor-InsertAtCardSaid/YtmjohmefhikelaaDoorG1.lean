/- Functions of the program, as plain Lean functions, and that the code comes to them: printed by gen.py. -/
import Derived.Test.YtmjohmefhikelaaDoorQP
set_option linter.unusedVariables false
set_option linter.unusedSimpArgs false
set_option maxHeartbeats 4000000
set_option maxRecDepth 10000
namespace Go.Proofs.YtmjohmefhikelaaDoor.Pv
open Go Go.Proofs

attribute [local go_sem] RC RL RM roundK_x roundK_g roundK_r loadN V.slz V.slz1 lnB V.left V.lenOf slice3 sliceNil Option.getD_none Option.getD_some sliceOp cut upon_each nextM entryOp buildOk lookup lookV update elemOf Option.isSome_map unOp wanted aop tkB rwB neD Env.get Env.put Env.keep putD dstOk ev constV nilSlice V.demote V.toOwn V.asOwn V.cells tyE R1.res binOp isShift binOpT isC intOp strOp shiftOp byteV index indexAddr slice bounds hiB loB withB maxV minV evs pickV lenV builtin initEnv convert K.isU8 strOf load store fieldOf append appT fltOp cpxV realV imagV toInt rangeOp nextOp room fill placeOf splice repl chunks Ty.val Ty.agg V.plain H.row H.ety AObj.row putAll demEnv updH
def strings_Lines (x0 : List UInt8) : R ((List UInt8)) :=
  R.ok x0
theorem strings_Lines_call {h : H} {x0 : List UInt8} {Q : Out → H → Prop} {KK : ((List UInt8)) → Prop} {X : V → Prop} (hq : (strings_Lines x0).post KK X) (hK : ∀ r, KK r → Q (.ret (.func (.func 28) [] [.ref h.length 0])) (h ++ [.cells 9 [.str r]])) (hX : ∀ v, X v → False) : CA qprim 14 [.str x0] h Q := by
  refine acalln hp Tryd.func14 rfl (by kernel_rfl) (n := 4) rfl (rs := [.tmp 2]) rfl [0, 1, 2] [] false (by simp) ?_
  unfold strings_Lines at hq
  simp only [initEnv, List.map_cons, List.map_nil, List.getD_cons_zero, List.getD_cons_succ, List.getD_nil, V.demote]
  rw [wp_seq]
  refine wp_region_i (by rfl) ?_
  simp only [go_sem, ↓evs_eq, Nat.reduceAdd, ↓reduceIte, Nat.reduceEqDiff, Nat.reduceBEq, Nat.reduceBNe, Nat.reduceLT, Int.reduceToNat, Int.reduceEq, Int.reduceLT, Int.reduceLE, reduceCtorEq, Nat.reduceMul, Nat.reduceLeDiff]
  rw [wp_seq]
  refine wp_region_i (by rfl) ?_
  simp only [go_sem, ↓evs_eq, Nat.reduceAdd, ↓reduceIte, Nat.reduceEqDiff, Nat.reduceBEq, Nat.reduceBNe, Nat.reduceLT, Int.reduceToNat, Int.reduceEq, Int.reduceLT, Int.reduceLE, reduceCtorEq, Nat.reduceMul, Nat.reduceLeDiff]
  rw [wp_ret]
  simp only [retQ, results, resultAll, resultOne, Nat.zero_add, scopeQ, go_sem, ↓evs_eq, Nat.reduceAdd, ↓reduceIte, Nat.reduceEqDiff, Nat.reduceBEq, Nat.reduceBNe, Nat.reduceLT, Int.reduceToNat, Int.reduceEq, Int.reduceLT, Int.reduceLE, reduceCtorEq, Nat.reduceMul, Nat.reduceLeDiff]
  refine ⟨_, (.refl _), ?_⟩
  exact hK _ hq

def slices_AppendSeq_string_r0 : List (List UInt8 × List UInt8) → List UInt8 → List (List UInt8) → R ((List UInt8) × (List (List UInt8)))
  | [], o0_0_15, o1_0_15 => R.ok (o0_0_15, o1_0_15)
  | e11 :: k, o0_0_15, o1_0_15 => if List.length o1_0_15 + List.length ([e11.1]) ≤ 1000000000 then (slices_AppendSeq_string_r0 k e11.2 (o1_0_15 ++ ([e11.1]))) else R.stuck
def slices_AppendSeq_string (o0_0 : List UInt8) : R ((List (List UInt8)) × (List UInt8)) :=
  if List.length o0_0 ≤ 4000000000 then ((slices_AppendSeq_string_r0 (linesP o0_0) o0_0 []).bind fun (o0_0p29, o1_0p29) => R.ok (o1_0p29, o0_0p29)) else R.stuck
theorem slices_AppendSeq_string_call {h : H} {o0_0 : List UInt8} {Q : Out → H → Prop} {id0 : Nat} (h00 : h[id0]? = some (.cells 9 [.str o0_0])) {KK : ((List (List UInt8)) × (List UInt8)) → Prop} {X : V → Prop} (hq : (slices_AppendSeq_string o0_0).post KK X) (hK : ∀ r, KK r → Q (.ret (.sl 1 (List.map V.str r.1))) (List.set h id0 (.cells 9 [.str r.2]))) (hX : ∀ v, X v → False) : CA qprim 27 [.nils 9 1, .func (.func 28) [] [.ref id0 0]] h Q := by
  refine acalln hp Tryd.func27 rfl (by kernel_rfl) (n := 13) rfl (rs := [.tmp 4]) rfl [0, 1, 2, 4, 5, 6, 7] [8] true (by simp) ?_
  unfold slices_AppendSeq_string at hq
  simp only [initEnv, List.map_cons, List.map_nil, List.getD_cons_zero, List.getD_cons_succ, List.getD_nil, V.demote]
  have hlt0 : id0 < h.length := (List.getElem?_eq_some_iff.1 h00).1
  have hlen : ∀ (c0 : AObj), List.length (List.set h id0 c0) = h.length := by intros; simp only [List.length_set]
  have hg0 : ∀ (c0 : AObj), ((List.set h id0 c0) : List AObj)[id0]? = some c0 := by intros; simp [List.getElem?_set, hlt0]
  have hgl0 : ∀ (c0 : AObj) (L : List AObj), ((List.set h id0 c0) ++ L)[id0]? = some c0 := by intros; rw [List.getElem?_append_left (by rw [hlen]; exact hlt0)]; exact hg0 _
  have hs0 : ∀ (c0 : AObj) (x : AObj), List.set (List.set h id0 c0) id0 x = (List.set h id0 x) := by intros; simp only [List.set_set]
  have hsl0 : ∀ (c0 : AObj) (x : AObj) (L : List AObj), List.set ((List.set h id0 c0) ++ L) id0 x = (List.set h id0 x) ++ L := by intros; rw [List.set_append_left _ _ (by rw [hlen]; exact hlt0), hs0]
  have hgL : ∀ (c0 : AObj) (L : List AObj) (j : Nat), ((List.set h id0 c0) ++ L)[h.length + j]? = L[j]? := by intro c0 L j; have := get_loc (h := (List.set h id0 c0)) (L := L) (j := j); rwa [hlen] at this
  have hgL0 : ∀ (c0 : AObj) (L : List AObj), ((List.set h id0 c0) ++ L)[h.length]? = L[0]? := fun c0 L => hgL c0 L 0
  have hsL : ∀ (c0 : AObj) (L : List AObj) (j : Nat) (x : AObj), List.set ((List.set h id0 c0) ++ L) (h.length + j) x = (List.set h id0 c0) ++ List.set L j x := by intro c0 L j x; have := set_loc (h := (List.set h id0 c0)) (L := L) (j := j) (o := x); rwa [hlen] at this
  have hsL0 : ∀ (c0 : AObj) (L : List AObj) (x : AObj), List.set ((List.set h id0 c0) ++ L) h.length x = (List.set h id0 c0) ++ List.set L 0 x := fun c0 L x => hsL c0 L 0 x
  refine wp_heap (h' := (List.set h id0 (.cells 9 [.str o0_0]))) (by rw [set_same h00]) ?_
  rw [wp_seq]
  refine wp_region_i (by rfl) ?_
  simp only [go_sem, ↓evs_eq, Nat.reduceAdd, ↓reduceIte, Nat.reduceEqDiff, Nat.reduceBEq, Nat.reduceBNe, Nat.reduceLT, Int.reduceToNat, Int.reduceEq, Int.reduceLT, Int.reduceLE, reduceCtorEq, Nat.reduceMul, Nat.reduceLeDiff, hg0, hgl0, hs0, hsl0, hgL, hgL0, hsL, hsL0, hlen]
  rw [wp_seq]
  rw [wp_seq]
  refine wp_region_i (by rfl) ?_
  simp only [go_sem, ↓evs_eq, Nat.reduceAdd, ↓reduceIte, Nat.reduceEqDiff, Nat.reduceBEq, Nat.reduceBNe, Nat.reduceLT, Int.reduceToNat, Int.reduceEq, Int.reduceLT, Int.reduceLE, reduceCtorEq, Nat.reduceMul, Nat.reduceLeDiff, hg0, hgl0, hs0, hsl0, hgL, hgL0, hsL, hsL0, hlen]
  rw [wp_block]
  obtain ⟨g28, hq⟩ := R.guard hq
  refine range_in ?_
  refine Wk.same ?_
  obtain ⟨K20, hK21, hq⟩ := R.post_cut hq
  refine range_go 28 [.ref id0 0] (by simp only [go_sem, ↓evs_eq, Nat.reduceAdd, ↓reduceIte, Nat.reduceEqDiff, Nat.reduceBEq, Nat.reduceBNe, Nat.reduceLT, Int.reduceToNat, Int.reduceEq, Int.reduceLT, Int.reduceLE, reduceCtorEq, Nat.reduceMul, Nat.reduceLeDiff, hg0, hgl0, hs0, hsl0, hgL, hgL0, hsL, hsL0, hlen]) (by rfl) (lines_it (id := id0) (s := o0_0) g28 (by first | (simp only [go_sem, ↓evs_eq, Nat.reduceAdd, ↓reduceIte, Nat.reduceEqDiff, Nat.reduceBEq, Nat.reduceBNe, Nat.reduceLT, Int.reduceToNat, Int.reduceEq, Int.reduceLT, Int.reduceLE, reduceCtorEq, Nat.reduceMul, Nat.reduceLeDiff, hg0, hgl0, hs0, hsl0, hgL, hgL0, hsL, hsL0, hlen] <;> rfl) | rfl) ⟨_, _, rfl, rfl, ?_⟩)
  refine rounds_gen (ps := [7]) (α := List UInt8 × List UInt8) (σ := (List UInt8) × (List (List UInt8))) (fun e11 => [(id0, .cells 9 [.str e11.2])]) (fun e11 => [.str e11.1]) (fun s => (List.set h id0 (.cells 9 [.str s.1])) ++ [.cells 40 [.own 9 1 (List.map V.str s.2)]]) (fun xs_ s => (slices_AppendSeq_string_r0 xs_ s.1 s.2).post K20 X) (fun e11 k27 s hq N hN22 => ⟨(by rfl), ?_⟩) (fun s hq => ?_) (linesP o0_0) (o0_0, []) hq
  · obtain ⟨o0_0_15, o1_0_15⟩ := s
    try dsimp only at hq ⊢
    rw [slices_AppendSeq_string_r0] at hq
    simp only [go_sem, ↓evs_eq, Nat.reduceAdd, ↓reduceIte, Nat.reduceEqDiff, Nat.reduceBEq, Nat.reduceBNe, Nat.reduceLT, Int.reduceToNat, Int.reduceEq, Int.reduceLT, Int.reduceLE, reduceCtorEq, Nat.reduceMul, Nat.reduceLeDiff, hg0, hgl0, hs0, hsl0, hgL, hgL0, hsL, hsL0, hlen]
    refine wp_region_i (by rfl) ?_
    simp only [go_sem, ↓evs_eq, Nat.reduceAdd, ↓reduceIte, Nat.reduceEqDiff, Nat.reduceBEq, Nat.reduceBNe, Nat.reduceLT, Int.reduceToNat, Int.reduceEq, Int.reduceLT, Int.reduceLE, reduceCtorEq, Nat.reduceMul, Nat.reduceLeDiff, hg0, hgl0, hs0, hsl0, hgL, hgL0, hsL, hsL0, hlen]
    rw [wp_block]
    refine wp_region_i (by rfl) ?_
    obtain ⟨g25, hq⟩ := R.guard hq
    have e26 : List.map V.str o1_0_15 ++ [.str e11.1] = List.map V.str (o1_0_15 ++ ([e11.1])) := (List.map_append (f := V.str) (l₁ := o1_0_15) (l₂ := [e11.1])).symm
    simp only [e26, go_sem, ↓evs_eq, Nat.reduceAdd, ↓reduceIte, Nat.reduceEqDiff, Nat.reduceBEq, Nat.reduceBNe, Nat.reduceLT, Int.reduceToNat, Int.reduceEq, Int.reduceLT, Int.reduceLE, reduceCtorEq, Nat.reduceMul, Nat.reduceLeDiff, hg0, hgl0, hs0, hsl0, hgL, hgL0, hsL, hsL0, hlen]
    repeat (with_reducible refine And.intro (by first | omega | assumption) ?_)
    refine Wk.le (EnvLe.cons (.top _) (EnvLe.cons (.top _) (EnvLe.cons (.top _) (EnvLe.cons (.top _) (EnvLe.cons (.top _) (EnvLe.cons (.top _) (EnvLe.cons (.top _) EnvLe.nil))))))) ?_
    try simp only [RC, roundK_x, roundK_g, roundK_r]
    refine round_end ?_
    refine Wk.same ?_
    exact ⟨(fun i hi => by simp only [List.mem_cons, List.not_mem_nil, or_false] at hi; rcases hi with rfl <;> simp only [go_sem, ↓evs_eq, Nat.reduceAdd, ↓reduceIte, Nat.reduceEqDiff, Nat.reduceBEq, Nat.reduceBNe, Nat.reduceLT, Int.reduceToNat, Int.reduceEq, Int.reduceLT, Int.reduceLE, reduceCtorEq, Nat.reduceMul, Nat.reduceLeDiff, hg0, hgl0, hs0, hsl0, hgL, hgL0, hsL, hsL0, hlen]), hN22 (e11.2, (o1_0_15 ++ ([e11.1]))) hq⟩
  · obtain ⟨o0_0_15, o1_0_15⟩ := s
    try dsimp only at hq ⊢
    rw [slices_AppendSeq_string_r0] at hq
    replace hq := hK21 _ hq
    try dsimp only at hq
    try simp only [RC, roundK_x, roundK_g, roundK_r]
    refine Wk.same ?_
    try simp only [RC, roundK_x, roundK_g, roundK_r]
    rw [wp_seq]
    refine wp_region_i (by rfl) ?_
    simp only [go_sem, ↓evs_eq, Nat.reduceAdd, ↓reduceIte, Nat.reduceEqDiff, Nat.reduceBEq, Nat.reduceBNe, Nat.reduceLT, Int.reduceToNat, Int.reduceEq, Int.reduceLT, Int.reduceLE, reduceCtorEq, Nat.reduceMul, Nat.reduceLeDiff, hg0, hgl0, hs0, hsl0, hgL, hgL0, hsL, hsL0, hlen]
    rw [wp_ret]
    simp only [retQ, results, resultAll, resultOne, Nat.zero_add, scopeQ, go_sem, ↓evs_eq, Nat.reduceAdd, ↓reduceIte, Nat.reduceEqDiff, Nat.reduceBEq, Nat.reduceBNe, Nat.reduceLT, Int.reduceToNat, Int.reduceEq, Int.reduceLT, Int.reduceLE, reduceCtorEq, Nat.reduceMul, Nat.reduceLeDiff, hg0, hgl0, hs0, hsl0, hgL, hgL0, hsL, hsL0, hlen]
    refine ⟨_, (.refl _), ?_⟩
    refine leave_okA (by simp only [List.length_set]) (okA_set1C (okA_base _ _) (cl_cons (.str _) cl_nil)) rfl (.sl _ _ (cl_map (fun x => .str _))) ?_
    exact hK _ hq

def slices_Collect_string (o0_0 : List UInt8) : R ((List (List UInt8)) × (List UInt8)) :=
  (slices_AppendSeq_string o0_0).sure.bind fun r4 => R.ok (r4.1, r4.2)
theorem slices_Collect_string_call {h : H} {o0_0 : List UInt8} {Q : Out → H → Prop} {id0 : Nat} (h00 : h[id0]? = some (.cells 9 [.str o0_0])) {KK : ((List (List UInt8)) × (List UInt8)) → Prop} {X : V → Prop} (hq : (slices_Collect_string o0_0).post KK X) (hK : ∀ r, KK r → Q (.ret (.sl 1 (List.map V.str r.1))) (List.set h id0 (.cells 9 [.str r.2]))) (hX : ∀ v, X v → False) : CA qprim 13 [.func (.func 28) [] [.ref id0 0]] h Q := by
  refine acalln hp Tryd.func13 rfl (by kernel_rfl) (n := 5) rfl (rs := [.tmp 2]) rfl [0, 2] [] false (by simp) ?_
  unfold slices_Collect_string at hq
  simp only [initEnv, List.map_cons, List.map_nil, List.getD_cons_zero, List.getD_cons_succ, List.getD_nil, V.demote]
  have hlt0 : id0 < h.length := (List.getElem?_eq_some_iff.1 h00).1
  have hlen : ∀ (c0 : AObj), List.length (List.set h id0 c0) = h.length := by intros; simp only [List.length_set]
  have hg0 : ∀ (c0 : AObj), ((List.set h id0 c0) : List AObj)[id0]? = some c0 := by intros; simp [List.getElem?_set, hlt0]
  have hgl0 : ∀ (c0 : AObj) (L : List AObj), ((List.set h id0 c0) ++ L)[id0]? = some c0 := by intros; rw [List.getElem?_append_left (by rw [hlen]; exact hlt0)]; exact hg0 _
  have hs0 : ∀ (c0 : AObj) (x : AObj), List.set (List.set h id0 c0) id0 x = (List.set h id0 x) := by intros; simp only [List.set_set]
  have hsl0 : ∀ (c0 : AObj) (x : AObj) (L : List AObj), List.set ((List.set h id0 c0) ++ L) id0 x = (List.set h id0 x) ++ L := by intros; rw [List.set_append_left _ _ (by rw [hlen]; exact hlt0), hs0]
  have hgL : ∀ (c0 : AObj) (L : List AObj) (j : Nat), ((List.set h id0 c0) ++ L)[h.length + j]? = L[j]? := by intro c0 L j; have := get_loc (h := (List.set h id0 c0)) (L := L) (j := j); rwa [hlen] at this
  have hgL0 : ∀ (c0 : AObj) (L : List AObj), ((List.set h id0 c0) ++ L)[h.length]? = L[0]? := fun c0 L => hgL c0 L 0
  have hsL : ∀ (c0 : AObj) (L : List AObj) (j : Nat) (x : AObj), List.set ((List.set h id0 c0) ++ L) (h.length + j) x = (List.set h id0 c0) ++ List.set L j x := by intro c0 L j x; have := set_loc (h := (List.set h id0 c0)) (L := L) (j := j) (o := x); rwa [hlen] at this
  have hsL0 : ∀ (c0 : AObj) (L : List AObj) (x : AObj), List.set ((List.set h id0 c0) ++ L) h.length x = (List.set h id0 c0) ++ List.set L 0 x := fun c0 L x => hsL c0 L 0 x
  refine wp_heap (h' := (List.set h id0 (.cells 9 [.str o0_0]))) (by rw [set_same h00]) ?_
  rw [wp_seq]
  refine wp_region_i (by rfl) ?_
  simp only [go_sem, ↓evs_eq, Nat.reduceAdd, ↓reduceIte, Nat.reduceEqDiff, Nat.reduceBEq, Nat.reduceBNe, Nat.reduceLT, Int.reduceToNat, Int.reduceEq, Int.reduceLT, Int.reduceLE, reduceCtorEq, Nat.reduceMul, Nat.reduceLeDiff, hg0, hgl0, hs0, hsl0, hgL, hgL0, hsL, hsL0, hlen]
  rw [wp_seq]
  refine wp_region_i (by rfl) ?_
  simp only [go_sem, ↓evs_eq, Nat.reduceAdd, ↓reduceIte, Nat.reduceEqDiff, Nat.reduceBEq, Nat.reduceBNe, Nat.reduceLT, Int.reduceToNat, Int.reduceEq, Int.reduceLT, Int.reduceLE, reduceCtorEq, Nat.reduceMul, Nat.reduceLeDiff, hg0, hgl0, hs0, hsl0, hgL, hgL0, hsL, hsL0, hlen]
  obtain ⟨K5, hK6, hq⟩ := R.post_cut_sure hq
  refine slices_AppendSeq_string_call (o0_0 := o0_0) (id0 := id0) (by first | (simp only [go_sem, ↓evs_eq, Nat.reduceAdd, ↓reduceIte, Nat.reduceEqDiff, Nat.reduceBEq, Nat.reduceBNe, Nat.reduceLT, Int.reduceToNat, Int.reduceEq, Int.reduceLT, Int.reduceLE, reduceCtorEq, Nat.reduceMul, Nat.reduceLeDiff, hg0, hgl0, hs0, hsl0, hgL, hgL0, hsL, hsL0, hlen] <;> rfl) | assumption | rfl) hq (fun r4 hq => ?_) (fun v hv => hv.elim)
  replace hq := hK6 _ hq
  simp only [go_sem, ↓evs_eq, Nat.reduceAdd, ↓reduceIte, Nat.reduceEqDiff, Nat.reduceBEq, Nat.reduceBNe, Nat.reduceLT, Int.reduceToNat, Int.reduceEq, Int.reduceLT, Int.reduceLE, reduceCtorEq, Nat.reduceMul, Nat.reduceLeDiff, hg0, hgl0, hs0, hsl0, hgL, hgL0, hsL, hsL0, hlen]
  rw [wp_ret]
  simp only [retQ, results, resultAll, resultOne, Nat.zero_add, scopeQ, go_sem, ↓evs_eq, Nat.reduceAdd, ↓reduceIte, Nat.reduceEqDiff, Nat.reduceBEq, Nat.reduceBNe, Nat.reduceLT, Int.reduceToNat, Int.reduceEq, Int.reduceLT, Int.reduceLE, reduceCtorEq, Nat.reduceMul, Nat.reduceLeDiff, hg0, hgl0, hs0, hsl0, hgL, hgL0, hsL, hsL0, hlen]
  refine ⟨_, (.refl _), ?_⟩
  exact hK _ hq

def insert_At_1 (o0_0 : List UInt8) (x0 : List UInt8) : R (Bool) :=
  (strings_Contains x0 o0_0).bind fun r4 => R.ok r4
theorem insert_At_1_call {h : H} {o0_0 : List UInt8} {x0 : List UInt8} {Q : Out → H → Prop} {id0 : Nat} (h00 : h[id0]? = some (.cells 9 [.str o0_0])) {KK : (Bool) → Prop} {X : V → Prop} (hq : (insert_At_1 o0_0 x0).post KK X) (hK : ∀ r, KK r → Q (.ret (.bool r)) h) (hX : ∀ v, X v → False) : CA qprim 15 [.str x0, .ref id0 0] h Q := by
  refine acalln hp Tryd.func15 rfl (by kernel_rfl) (n := 7) rfl (rs := [.tmp 3]) rfl [0, 1, 3] [] false (by simp) ?_
  unfold insert_At_1 at hq
  simp only [initEnv, List.map_cons, List.map_nil, List.getD_cons_zero, List.getD_cons_succ, List.getD_nil, V.demote]
  have hlt0 : id0 < h.length := (List.getElem?_eq_some_iff.1 h00).1
  have hlen : ∀ (c0 : AObj), List.length (List.set h id0 c0) = h.length := by intros; simp only [List.length_set]
  have hg0 : ∀ (c0 : AObj), ((List.set h id0 c0) : List AObj)[id0]? = some c0 := by intros; simp [List.getElem?_set, hlt0]
  have hgl0 : ∀ (c0 : AObj) (L : List AObj), ((List.set h id0 c0) ++ L)[id0]? = some c0 := by intros; rw [List.getElem?_append_left (by rw [hlen]; exact hlt0)]; exact hg0 _
  have hs0 : ∀ (c0 : AObj) (x : AObj), List.set (List.set h id0 c0) id0 x = (List.set h id0 x) := by intros; simp only [List.set_set]
  have hsl0 : ∀ (c0 : AObj) (x : AObj) (L : List AObj), List.set ((List.set h id0 c0) ++ L) id0 x = (List.set h id0 x) ++ L := by intros; rw [List.set_append_left _ _ (by rw [hlen]; exact hlt0), hs0]
  have hgL : ∀ (c0 : AObj) (L : List AObj) (j : Nat), ((List.set h id0 c0) ++ L)[h.length + j]? = L[j]? := by intro c0 L j; have := get_loc (h := (List.set h id0 c0)) (L := L) (j := j); rwa [hlen] at this
  have hgL0 : ∀ (c0 : AObj) (L : List AObj), ((List.set h id0 c0) ++ L)[h.length]? = L[0]? := fun c0 L => hgL c0 L 0
  have hsL : ∀ (c0 : AObj) (L : List AObj) (j : Nat) (x : AObj), List.set ((List.set h id0 c0) ++ L) (h.length + j) x = (List.set h id0 c0) ++ List.set L j x := by intro c0 L j x; have := set_loc (h := (List.set h id0 c0)) (L := L) (j := j) (o := x); rwa [hlen] at this
  have hsL0 : ∀ (c0 : AObj) (L : List AObj) (x : AObj), List.set ((List.set h id0 c0) ++ L) h.length x = (List.set h id0 c0) ++ List.set L 0 x := fun c0 L x => hsL c0 L 0 x
  refine wp_heap (h' := (List.set h id0 (.cells 9 [.str o0_0]))) (by rw [set_same h00]) ?_
  rw [wp_seq]
  refine wp_region_i (by rfl) ?_
  simp only [go_sem, ↓evs_eq, Nat.reduceAdd, ↓reduceIte, Nat.reduceEqDiff, Nat.reduceBEq, Nat.reduceBNe, Nat.reduceLT, Int.reduceToNat, Int.reduceEq, Int.reduceLT, Int.reduceLE, reduceCtorEq, Nat.reduceMul, Nat.reduceLeDiff, hg0, hgl0, hs0, hsl0, hgL, hgL0, hsL, hsL0, hlen]
  rw [wp_seq]
  refine wp_region_i (by rfl) ?_
  simp only [go_sem, ↓evs_eq, Nat.reduceAdd, ↓reduceIte, Nat.reduceEqDiff, Nat.reduceBEq, Nat.reduceBNe, Nat.reduceLT, Int.reduceToNat, Int.reduceEq, Int.reduceLT, Int.reduceLE, reduceCtorEq, Nat.reduceMul, Nat.reduceLeDiff, hg0, hgl0, hs0, hsl0, hgL, hgL0, hsL, hsL0, hlen]
  obtain ⟨K5, hK6, hq⟩ := R.post_cut hq
  refine strings_Contains_call (x0 := x0) (x1 := o0_0) hq (fun r4 hq => ?_) (fun v hv => (hX v hv).elim)
  replace hq := hK6 _ hq
  simp only [go_sem, ↓evs_eq, Nat.reduceAdd, ↓reduceIte, Nat.reduceEqDiff, Nat.reduceBEq, Nat.reduceBNe, Nat.reduceLT, Int.reduceToNat, Int.reduceEq, Int.reduceLT, Int.reduceLE, reduceCtorEq, Nat.reduceMul, Nat.reduceLeDiff, hg0, hgl0, hs0, hsl0, hgL, hgL0, hsL, hsL0, hlen]
  rw [wp_ret]
  simp only [retQ, results, resultAll, resultOne, Nat.zero_add, scopeQ, go_sem, ↓evs_eq, Nat.reduceAdd, ↓reduceIte, Nat.reduceEqDiff, Nat.reduceBEq, Nat.reduceBNe, Nat.reduceLT, Int.reduceToNat, Int.reduceEq, Int.reduceLT, Int.reduceLE, reduceCtorEq, Nat.reduceMul, Nat.reduceLeDiff, hg0, hgl0, hs0, hsl0, hgL, hgL0, hsL, hsL0, hlen]
  refine ⟨_, (.refl _), ?_⟩
  rw [set_same h00]
  exact hK _ hq

def slices_IndexFunc_string_j0 : R (Int) :=
  R.ok (-1)
def slices_IndexFunc_string_l1 (o0_0 : List UInt8) (x0 : List (List UInt8)) : Nat → Int → R ((Unit) ⊕ (Int))
  | 0, _ => R.stuck
  | k + 1, x8_30 => if x8_30 < (List.length x0 : Int) then (if 0 ≤ x8_30 ∧ x8_30 < (List.length x0 : Int) then ((insert_At_1 o0_0 (gt x0 x8_30)).sure.bind fun r54 => if r54 = true then (R.ok (.inr x8_30)) else (slices_IndexFunc_string_l1 o0_0 x0 k (IntKind.wrap .i64 (x8_30 + 1)))) else R.stuck) else (R.ok (.inl ()))
def slices_IndexFunc_string (o0_0 : List UInt8) (x0 : List (List UInt8)) : R (Int) :=
  (slices_IndexFunc_string_l1 o0_0 x0 Many 0).bind fun | (.inl _) => slices_IndexFunc_string_j0 | (.inr rp60) => R.ok rp60
theorem slices_IndexFunc_string_call {h : H} {o0_0 : List UInt8} {x0 : List (List UInt8)} {Q : Out → H → Prop} {id0 : Nat} (h00 : h[id0]? = some (.cells 9 [.str o0_0])) {KK : (Int) → Prop} {X : V → Prop} (hq : (slices_IndexFunc_string o0_0 x0).post KK X) (hK : ∀ r, KK r → Q (.ret (.int .i64 r)) h) (hX : ∀ v, X v → False) : CA qprim 26 [.sl 1 (List.map V.str x0), .func (.func 15) [] [.ref id0 0]] h Q := by
  refine acalln hp Tryd.func26 rfl (by kernel_rfl) (n := 19) rfl (rs := [.tmp 4]) rfl [0, 1, 4, 5, 7, 8, 9, 16] [] false (by simp) ?_
  unfold slices_IndexFunc_string at hq
  simp only [initEnv, List.map_cons, List.map_nil, List.getD_cons_zero, List.getD_cons_succ, List.getD_nil, V.demote]
  have hlt0 : id0 < h.length := (List.getElem?_eq_some_iff.1 h00).1
  have hlen : ∀ (c0 : AObj), List.length (List.set h id0 c0) = h.length := by intros; simp only [List.length_set]
  have hg0 : ∀ (c0 : AObj), ((List.set h id0 c0) : List AObj)[id0]? = some c0 := by intros; simp [List.getElem?_set, hlt0]
  have hgl0 : ∀ (c0 : AObj) (L : List AObj), ((List.set h id0 c0) ++ L)[id0]? = some c0 := by intros; rw [List.getElem?_append_left (by rw [hlen]; exact hlt0)]; exact hg0 _
  have hs0 : ∀ (c0 : AObj) (x : AObj), List.set (List.set h id0 c0) id0 x = (List.set h id0 x) := by intros; simp only [List.set_set]
  have hsl0 : ∀ (c0 : AObj) (x : AObj) (L : List AObj), List.set ((List.set h id0 c0) ++ L) id0 x = (List.set h id0 x) ++ L := by intros; rw [List.set_append_left _ _ (by rw [hlen]; exact hlt0), hs0]
  have hgL : ∀ (c0 : AObj) (L : List AObj) (j : Nat), ((List.set h id0 c0) ++ L)[h.length + j]? = L[j]? := by intro c0 L j; have := get_loc (h := (List.set h id0 c0)) (L := L) (j := j); rwa [hlen] at this
  have hgL0 : ∀ (c0 : AObj) (L : List AObj), ((List.set h id0 c0) ++ L)[h.length]? = L[0]? := fun c0 L => hgL c0 L 0
  have hsL : ∀ (c0 : AObj) (L : List AObj) (j : Nat) (x : AObj), List.set ((List.set h id0 c0) ++ L) (h.length + j) x = (List.set h id0 c0) ++ List.set L j x := by intro c0 L j x; have := set_loc (h := (List.set h id0 c0)) (L := L) (j := j) (o := x); rwa [hlen] at this
  have hsL0 : ∀ (c0 : AObj) (L : List AObj) (x : AObj), List.set ((List.set h id0 c0) ++ L) h.length x = (List.set h id0 c0) ++ List.set L 0 x := fun c0 L x => hsL c0 L 0 x
  refine wp_heap (h' := (List.set h id0 (.cells 9 [.str o0_0]))) (by rw [set_same h00]) ?_
  rw [wp_seq]
  refine wp_region_i (by rfl) ?_
  simp only [go_sem, ↓evs_eq, Nat.reduceAdd, ↓reduceIte, Nat.reduceEqDiff, Nat.reduceBEq, Nat.reduceBNe, Nat.reduceLT, Int.reduceToNat, Int.reduceEq, Int.reduceLT, Int.reduceLE, reduceCtorEq, Nat.reduceMul, Nat.reduceLeDiff, hg0, hgl0, hs0, hsl0, hgL, hgL0, hsL, hsL0, hlen]
  refine seq_gen (acall_mono hp) (σ := V × V × V × V × V × V) (fun s => [(0, .sl 1 (List.map V.str x0)), (1, .func (.func 15) [] [.ref id0 0]), (4, s.1), (5, s.2.1), (7, s.2.2.1), (8, s.2.2.2.1), (9, s.2.2.2.2.1), (16, s.2.2.2.2.2)]) (fun s => (List.set h id0 (.cells 9 [.str o0_0]))) (fun s => (slices_IndexFunc_string_j0).post KK X) (fun s hq => ?_) (fun N hN29 => ?_)
  · obtain ⟨y4_28, y5_28, y7_28, y8_28, y9_28, y16_28⟩ := s
    try dsimp only at hq ⊢
    unfold slices_IndexFunc_string_j0 at hq
    rw [wp_seq]
    refine wp_region_i (by rfl) ?_
    simp only [go_sem, ↓evs_eq, Nat.reduceAdd, ↓reduceIte, Nat.reduceEqDiff, Nat.reduceBEq, Nat.reduceBNe, Nat.reduceLT, Int.reduceToNat, Int.reduceEq, Int.reduceLT, Int.reduceLE, reduceCtorEq, Nat.reduceMul, Nat.reduceLeDiff, hg0, hgl0, hs0, hsl0, hgL, hgL0, hsL, hsL0, hlen]
    rw [wp_ret]
    simp only [retQ, results, resultAll, resultOne, Nat.zero_add, scopeQ, go_sem, ↓evs_eq, Nat.reduceAdd, ↓reduceIte, Nat.reduceEqDiff, Nat.reduceBEq, Nat.reduceBNe, Nat.reduceLT, Int.reduceToNat, Int.reduceEq, Int.reduceLT, Int.reduceLE, reduceCtorEq, Nat.reduceMul, Nat.reduceLeDiff, hg0, hgl0, hs0, hsl0, hgL, hgL0, hsL, hsL0, hlen]
    refine ⟨_, (.refl _), ?_⟩
    rw [set_same h00]
    exact hK _ hq
  · rw [wp_seq]
    refine wp_region_i (by rfl) ?_
    simp only [go_sem, ↓evs_eq, Nat.reduceAdd, ↓reduceIte, Nat.reduceEqDiff, Nat.reduceBEq, Nat.reduceBNe, Nat.reduceLT, Int.reduceToNat, Int.reduceEq, Int.reduceLT, Int.reduceLE, reduceCtorEq, Nat.reduceMul, Nat.reduceLeDiff, hg0, hgl0, hs0, hsl0, hgL, hgL0, hsL, hsL0, hlen]
    rw [wp_block]
    refine loop_in ?_
    refine Wk.le (EnvLe.cons (.refl _) (EnvLe.cons (.refl _) (EnvLe.cons (.top _) (EnvLe.cons (.refl _) (EnvLe.cons (.refl _) (EnvLe.cons (.refl _) (EnvLe.cons (.refl _) (EnvLe.cons (.refl _) EnvLe.nil)))))))) ?_
    obtain ⟨K43, hK44, hq⟩ := R.post_cut hq
    refine loop_gen (acall_mono hp) (σ := V × V × Int × V × V) (fun s => [(0, .sl 1 (List.map V.str x0)), (1, .func (.func 15) [] [.ref id0 0]), (4, s.1), (5, s.2.1), (7, .int .i64 (List.length x0 : Int)), (8, .int .i64 s.2.2.1), (9, s.2.2.2.1), (16, s.2.2.2.2)]) (fun s => (List.set h id0 (.cells 9 [.str o0_0]))) (fun k s => (slices_IndexFunc_string_l1 o0_0 x0 k s.2.2.1).post K43 X) (fun s hs => hs) (fun k58 s hq N hN45 => ?_) _ (_, _, 0, _, _) hq
    obtain ⟨y4_30, y5_30, x8_30, y9_30, y16_30⟩ := s
    try dsimp only at hq ⊢
    rw [slices_IndexFunc_string_l1] at hq
    rw [wp_seq]
    refine wp_region_i (by rfl) ?_
    simp only [go_sem, ↓evs_eq, Nat.reduceAdd, ↓reduceIte, Nat.reduceEqDiff, Nat.reduceBEq, Nat.reduceBNe, Nat.reduceLT, Int.reduceToNat, Int.reduceEq, Int.reduceLT, Int.reduceLE, reduceCtorEq, Nat.reduceMul, Nat.reduceLeDiff, hg0, hgl0, hs0, hsl0, hgL, hgL0, hsL, hsL0, hlen]
    rw [wp_seq]
    rw [wp_cond]
    simp only [go_sem, ↓evs_eq, Nat.reduceAdd, ↓reduceIte, Nat.reduceEqDiff, Nat.reduceBEq, Nat.reduceBNe, Nat.reduceLT, Int.reduceToNat, Int.reduceEq, Int.reduceLT, Int.reduceLE, reduceCtorEq, Nat.reduceMul, Nat.reduceLeDiff, hg0, hgl0, hs0, hsl0, hgL, hgL0, hsL, hsL0, hlen]
    by_cases hc46 : x8_30 < (List.length x0 : Int)
    · replace hq := (R.post_if hq).1 hc46
      refine condK_t (congrArg V.bool (decide_eq_true hc46)) ?_
      try simp only [wp_skip, RC, roundK_x, roundK_g, roundK_r]
      refine Wk.same ?_
      try simp only [RC, roundK_x, roundK_g, roundK_r]
      rw [wp_seq]
      rw [wp_block]
      rw [wp_seq]
      refine wp_region_i (by rfl) ?_
      simp only [go_sem, ↓evs_eq, Nat.reduceAdd, ↓reduceIte, Nat.reduceEqDiff, Nat.reduceBEq, Nat.reduceBNe, Nat.reduceLT, Int.reduceToNat, Int.reduceEq, Int.reduceLT, Int.reduceLE, reduceCtorEq, Nat.reduceMul, Nat.reduceLeDiff, hg0, hgl0, hs0, hsl0, hgL, hgL0, hsL, hsL0, hlen]
      rw [wp_seq]
      refine wp_region_i (by rfl) ?_
      obtain ⟨g52, hq⟩ := R.guard hq
      have e53 := map_gt (f := V.str) (l := x0) (i := x8_30) g52
      simp only [e53, go_sem, ↓evs_eq, Nat.reduceAdd, ↓reduceIte, Nat.reduceEqDiff, Nat.reduceBEq, Nat.reduceBNe, Nat.reduceLT, Int.reduceToNat, Int.reduceEq, Int.reduceLT, Int.reduceLE, reduceCtorEq, Nat.reduceMul, Nat.reduceLeDiff, hg0, hgl0, hs0, hsl0, hgL, hgL0, hsL, hsL0, hlen]
      repeat (with_reducible refine And.intro (by first | omega | assumption) ?_)
      obtain ⟨K56, hK57, hq⟩ := R.post_cut_sure hq
      refine insert_At_1_call (o0_0 := o0_0) (x0 := (gt x0 x8_30)) (id0 := id0) (by first | (simp only [go_sem, ↓evs_eq, Nat.reduceAdd, ↓reduceIte, Nat.reduceEqDiff, Nat.reduceBEq, Nat.reduceBNe, Nat.reduceLT, Int.reduceToNat, Int.reduceEq, Int.reduceLT, Int.reduceLE, reduceCtorEq, Nat.reduceMul, Nat.reduceLeDiff, hg0, hgl0, hs0, hsl0, hgL, hgL0, hsL, hsL0, hlen] <;> rfl) | assumption | rfl) hq (fun r54 hq => ?_) (fun v hv => hv.elim)
      replace hq := hK57 _ hq
      simp only [go_sem, ↓evs_eq, Nat.reduceAdd, ↓reduceIte, Nat.reduceEqDiff, Nat.reduceBEq, Nat.reduceBNe, Nat.reduceLT, Int.reduceToNat, Int.reduceEq, Int.reduceLT, Int.reduceLE, reduceCtorEq, Nat.reduceMul, Nat.reduceLeDiff, hg0, hgl0, hs0, hsl0, hgL, hgL0, hsL, hsL0, hlen]
      rw [wp_cond]
      simp only [go_sem, ↓evs_eq, Nat.reduceAdd, ↓reduceIte, Nat.reduceEqDiff, Nat.reduceBEq, Nat.reduceBNe, Nat.reduceLT, Int.reduceToNat, Int.reduceEq, Int.reduceLT, Int.reduceLE, reduceCtorEq, Nat.reduceMul, Nat.reduceLeDiff, hg0, hgl0, hs0, hsl0, hgL, hgL0, hsL, hsL0, hlen]
      by_cases hc55 : r54 = true
      · replace hq := (R.post_if hq).1 hc55
        refine condK_t (congrArg V.bool (hc55)) ?_
        rw [wp_seq]
        refine wp_region_i (by rfl) ?_
        simp only [go_sem, ↓evs_eq, Nat.reduceAdd, ↓reduceIte, Nat.reduceEqDiff, Nat.reduceBEq, Nat.reduceBNe, Nat.reduceLT, Int.reduceToNat, Int.reduceEq, Int.reduceLT, Int.reduceLE, reduceCtorEq, Nat.reduceMul, Nat.reduceLeDiff, hg0, hgl0, hs0, hsl0, hgL, hgL0, hsL, hsL0, hlen]
        rw [wp_ret]
        simp only [retQ, results, resultAll, resultOne, Nat.zero_add, scopeQ, go_sem, ↓evs_eq, Nat.reduceAdd, ↓reduceIte, Nat.reduceEqDiff, Nat.reduceBEq, Nat.reduceBNe, Nat.reduceLT, Int.reduceToNat, Int.reduceEq, Int.reduceLT, Int.reduceLE, reduceCtorEq, Nat.reduceMul, Nat.reduceLeDiff, hg0, hgl0, hs0, hsl0, hgL, hgL0, hsL, hsL0, hlen]
        refine ⟨_, (.refl _), ?_⟩
        rw [set_same h00]
        replace hq := hK44 _ hq
        exact hK _ hq
      · replace hq := (R.post_if hq).2 hc55
        replace hc55 := eq_false_of_ne_true hc55
        refine condK_f (congrArg V.bool (hc55)) ?_
        try simp only [wp_skip, RC, roundK_x, roundK_g, roundK_r]
        refine Wk.same ?_
        try simp only [RC, roundK_x, roundK_g, roundK_r]
        refine Wk.same ?_
        try simp only [RC, roundK_x, roundK_g, roundK_r]
        refine wp_region_i (by rfl) ?_
        simp only [go_sem, ↓evs_eq, Nat.reduceAdd, ↓reduceIte, Nat.reduceEqDiff, Nat.reduceBEq, Nat.reduceBNe, Nat.reduceLT, Int.reduceToNat, Int.reduceEq, Int.reduceLT, Int.reduceLE, reduceCtorEq, Nat.reduceMul, Nat.reduceLeDiff, hg0, hgl0, hs0, hsl0, hgL, hgL0, hsL, hsL0, hlen]
        refine Wk.le (EnvLe.cons (.refl _) (EnvLe.cons (.refl _) (EnvLe.cons (.refl _) (EnvLe.cons (.top _) (EnvLe.cons (.refl _) (EnvLe.cons (.refl _) (EnvLe.cons (.top _) (EnvLe.cons (.top _) EnvLe.nil)))))))) ?_
        exact hN45 (_, _, (IntKind.wrap .i64 (x8_30 + 1)), _, _) hq
    · replace hq := (R.post_if hq).2 hc46
      refine condK_f (congrArg V.bool (decide_eq_false hc46)) ?_
      rw [wp_exit]
      try simp only [↓reduceIte, Nat.reduceEqDiff, reduceCtorEq, if_false, if_true, eq_self, Nat.succ_ne_self, RC, roundK_x, roundK_g, roundK_r]
      replace hq := hK44 _ hq
      try dsimp only at hq
      refine Wk.le (EnvLe.cons (.refl _) (EnvLe.cons (.refl _) (EnvLe.cons (.refl _) (EnvLe.cons (.refl _) (EnvLe.cons (.top _) (EnvLe.cons (.top _) (EnvLe.cons (.top _) (EnvLe.cons (.refl _) EnvLe.nil)))))))) ?_
      try simp only [RC, roundK_x, roundK_g, roundK_r]
      exact hN29 (_, _, _, _, _, _) hq

def slices_ContainsFunc_string (o0_0 : List UInt8) (x0 : List (List UInt8)) : R (Bool) :=
  (slices_IndexFunc_string o0_0 x0).sure.bind fun r4 => R.ok (decide ((0 : Int) ≤ r4))
theorem slices_ContainsFunc_string_call {h : H} {o0_0 : List UInt8} {x0 : List (List UInt8)} {Q : Out → H → Prop} {id0 : Nat} (h00 : h[id0]? = some (.cells 9 [.str o0_0])) {KK : (Bool) → Prop} {X : V → Prop} (hq : (slices_ContainsFunc_string o0_0 x0).post KK X) (hK : ∀ r, KK r → Q (.ret (.bool r)) h) (hX : ∀ v, X v → False) : CA qprim 12 [.sl 1 (List.map V.str x0), .func (.func 15) [] [.ref id0 0]] h Q := by
  refine acalln hp Tryd.func12 rfl (by kernel_rfl) (n := 9) rfl (rs := [.tmp 4]) rfl [0, 1, 4] [] false (by simp) ?_
  unfold slices_ContainsFunc_string at hq
  simp only [initEnv, List.map_cons, List.map_nil, List.getD_cons_zero, List.getD_cons_succ, List.getD_nil, V.demote]
  have hlt0 : id0 < h.length := (List.getElem?_eq_some_iff.1 h00).1
  have hlen : ∀ (c0 : AObj), List.length (List.set h id0 c0) = h.length := by intros; simp only [List.length_set]
  have hg0 : ∀ (c0 : AObj), ((List.set h id0 c0) : List AObj)[id0]? = some c0 := by intros; simp [List.getElem?_set, hlt0]
  have hgl0 : ∀ (c0 : AObj) (L : List AObj), ((List.set h id0 c0) ++ L)[id0]? = some c0 := by intros; rw [List.getElem?_append_left (by rw [hlen]; exact hlt0)]; exact hg0 _
  have hs0 : ∀ (c0 : AObj) (x : AObj), List.set (List.set h id0 c0) id0 x = (List.set h id0 x) := by intros; simp only [List.set_set]
  have hsl0 : ∀ (c0 : AObj) (x : AObj) (L : List AObj), List.set ((List.set h id0 c0) ++ L) id0 x = (List.set h id0 x) ++ L := by intros; rw [List.set_append_left _ _ (by rw [hlen]; exact hlt0), hs0]
  have hgL : ∀ (c0 : AObj) (L : List AObj) (j : Nat), ((List.set h id0 c0) ++ L)[h.length + j]? = L[j]? := by intro c0 L j; have := get_loc (h := (List.set h id0 c0)) (L := L) (j := j); rwa [hlen] at this
  have hgL0 : ∀ (c0 : AObj) (L : List AObj), ((List.set h id0 c0) ++ L)[h.length]? = L[0]? := fun c0 L => hgL c0 L 0
  have hsL : ∀ (c0 : AObj) (L : List AObj) (j : Nat) (x : AObj), List.set ((List.set h id0 c0) ++ L) (h.length + j) x = (List.set h id0 c0) ++ List.set L j x := by intro c0 L j x; have := set_loc (h := (List.set h id0 c0)) (L := L) (j := j) (o := x); rwa [hlen] at this
  have hsL0 : ∀ (c0 : AObj) (L : List AObj) (x : AObj), List.set ((List.set h id0 c0) ++ L) h.length x = (List.set h id0 c0) ++ List.set L 0 x := fun c0 L x => hsL c0 L 0 x
  refine wp_heap (h' := (List.set h id0 (.cells 9 [.str o0_0]))) (by rw [set_same h00]) ?_
  rw [wp_seq]
  refine wp_region_i (by rfl) ?_
  simp only [go_sem, ↓evs_eq, Nat.reduceAdd, ↓reduceIte, Nat.reduceEqDiff, Nat.reduceBEq, Nat.reduceBNe, Nat.reduceLT, Int.reduceToNat, Int.reduceEq, Int.reduceLT, Int.reduceLE, reduceCtorEq, Nat.reduceMul, Nat.reduceLeDiff, hg0, hgl0, hs0, hsl0, hgL, hgL0, hsL, hsL0, hlen]
  rw [wp_seq]
  refine wp_region_i (by rfl) ?_
  simp only [go_sem, ↓evs_eq, Nat.reduceAdd, ↓reduceIte, Nat.reduceEqDiff, Nat.reduceBEq, Nat.reduceBNe, Nat.reduceLT, Int.reduceToNat, Int.reduceEq, Int.reduceLT, Int.reduceLE, reduceCtorEq, Nat.reduceMul, Nat.reduceLeDiff, hg0, hgl0, hs0, hsl0, hgL, hgL0, hsL, hsL0, hlen]
  obtain ⟨K5, hK6, hq⟩ := R.post_cut_sure hq
  refine slices_IndexFunc_string_call (o0_0 := o0_0) (x0 := x0) (id0 := id0) (by first | (simp only [go_sem, ↓evs_eq, Nat.reduceAdd, ↓reduceIte, Nat.reduceEqDiff, Nat.reduceBEq, Nat.reduceBNe, Nat.reduceLT, Int.reduceToNat, Int.reduceEq, Int.reduceLT, Int.reduceLE, reduceCtorEq, Nat.reduceMul, Nat.reduceLeDiff, hg0, hgl0, hs0, hsl0, hgL, hgL0, hsL, hsL0, hlen] <;> rfl) | assumption | rfl) hq (fun r4 hq => ?_) (fun v hv => hv.elim)
  replace hq := hK6 _ hq
  simp only [go_sem, ↓evs_eq, Nat.reduceAdd, ↓reduceIte, Nat.reduceEqDiff, Nat.reduceBEq, Nat.reduceBNe, Nat.reduceLT, Int.reduceToNat, Int.reduceEq, Int.reduceLT, Int.reduceLE, reduceCtorEq, Nat.reduceMul, Nat.reduceLeDiff, hg0, hgl0, hs0, hsl0, hgL, hgL0, hsL, hsL0, hlen]
  rw [wp_ret]
  simp only [retQ, results, resultAll, resultOne, Nat.zero_add, scopeQ, go_sem, ↓evs_eq, Nat.reduceAdd, ↓reduceIte, Nat.reduceEqDiff, Nat.reduceBEq, Nat.reduceBNe, Nat.reduceLT, Int.reduceToNat, Int.reduceEq, Int.reduceLT, Int.reduceLE, reduceCtorEq, Nat.reduceMul, Nat.reduceLeDiff, hg0, hgl0, hs0, hsl0, hgL, hgL0, hsL, hsL0, hlen]
  refine ⟨_, (.refl _), ?_⟩
  rw [set_same h00]
  exact hK _ hq

def insert_blanks (x0 : List UInt8) : R ((List UInt8)) :=
  (strings_TrimLeft x0 ([32, 9])).bind fun r5 => if 0 ≤ (IntKind.wrap .i64 ((List.length x0 : Int) - (List.length r5 : Int))) ∧ (IntKind.wrap .i64 ((List.length x0 : Int) - (List.length r5 : Int))) ≤ (List.length x0 : Int) then (R.ok (List.take (Int.toNat (IntKind.wrap .i64 ((List.length x0 : Int) - (List.length r5 : Int)))) x0)) else R.stuck
theorem insert_blanks_call {h : H} {x0 : List UInt8} {Q : Out → H → Prop} {KK : ((List UInt8)) → Prop} {X : V → Prop} (hq : (insert_blanks x0).post KK X) (hK : ∀ r, KK r → Q (.ret (.str r)) h) (hX : ∀ v, X v → V.Cl 0 v ∧ Q (.panic v) h) : CA qprim 18 [.str x0] h Q := by
  refine acalln hp Tryd.func18 rfl (by kernel_rfl) (n := 11) rfl (rs := [.tmp 2]) rfl [0, 2] [] false (by simp) ?_
  unfold insert_blanks at hq
  simp only [initEnv, List.map_cons, List.map_nil, List.getD_cons_zero, List.getD_cons_succ, List.getD_nil, V.demote]
  rw [wp_seq]
  refine wp_region_i (by rfl) ?_
  simp only [go_sem, ↓evs_eq, Nat.reduceAdd, ↓reduceIte, Nat.reduceEqDiff, Nat.reduceBEq, Nat.reduceBNe, Nat.reduceLT, Int.reduceToNat, Int.reduceEq, Int.reduceLT, Int.reduceLE, reduceCtorEq, Nat.reduceMul, Nat.reduceLeDiff]
  rw [wp_seq]
  refine wp_region_i (by rfl) ?_
  simp only [go_sem, ↓evs_eq, Nat.reduceAdd, ↓reduceIte, Nat.reduceEqDiff, Nat.reduceBEq, Nat.reduceBNe, Nat.reduceLT, Int.reduceToNat, Int.reduceEq, Int.reduceLT, Int.reduceLE, reduceCtorEq, Nat.reduceMul, Nat.reduceLeDiff]
  obtain ⟨K7, hK8, hq⟩ := R.post_cut hq
  refine strings_TrimLeft_call (x0 := x0) (x1 := [32, 9]) hq (fun r5 hq => ?_) (fun v hv => ⟨(hX v hv).1, ?_⟩)
  · replace hq := hK8 _ hq
    obtain ⟨g6, hq⟩ := R.guard hq
    simp only [go_sem, ↓evs_eq, Nat.reduceAdd, ↓reduceIte, Nat.reduceEqDiff, Nat.reduceBEq, Nat.reduceBNe, Nat.reduceLT, Int.reduceToNat, Int.reduceEq, Int.reduceLT, Int.reduceLE, reduceCtorEq, Nat.reduceMul, Nat.reduceLeDiff]
    repeat (with_reducible refine And.intro (by first | omega | assumption) ?_)
    rw [wp_ret]
    simp only [retQ, results, resultAll, resultOne, Nat.zero_add, scopeQ, go_sem, ↓evs_eq, Nat.reduceAdd, ↓reduceIte, Nat.reduceEqDiff, Nat.reduceBEq, Nat.reduceBNe, Nat.reduceLT, Int.reduceToNat, Int.reduceEq, Int.reduceLT, Int.reduceLE, reduceCtorEq, Nat.reduceMul, Nat.reduceLeDiff]
    refine ⟨_, (.refl _), ?_⟩
    exact hK _ hq
  · simp only [RC, roundK_x, roundK_g, roundK_r, scopeQ, retQ, ↓reduceIte, Bool.false_eq_true]
    exact (hX _ hv).2

def strings_Builder_WriteString (o0_0 : Bool) (o0_1 : List UInt8) (x1 : List UInt8) : R (Int × Bool × (List UInt8)) :=
  (strings_Builder_copyCheck o0_0 o0_1).sure.bind fun r4 => if List.length r4.2 + List.length x1 ≤ 1000000000 then (R.ok ((List.length x1 : Int), r4.1, (r4.2 ++ x1))) else R.stuck
theorem strings_Builder_WriteString_call {h : H} {o0_0 : Bool} {o0_1 : List UInt8} {x1 : List UInt8} {Q : Out → H → Prop} {id0 : Nat} (h00 : h[id0]? = some (.cells 38 [selfp id0 o0_0, .own 5 1 (List.map byteV o0_1)])) {KK : (Int × Bool × (List UInt8)) → Prop} {X : V → Prop} (hq : (strings_Builder_WriteString o0_0 o0_1 x1).post KK X) (hK : ∀ r, KK r → Q (.ret (.tup [.int .i64 r.1, .nili])) (List.set h id0 (.cells 38 [selfp id0 r.2.1, .own 5 1 (List.map byteV r.2.2)]))) (hX : ∀ v, X v → False) : CA qprim 17 [.ref id0 0, .str x1] h Q := by
  refine acalln hp Tryd.func17 rfl (by kernel_rfl) (n := 19) rfl (rs := [.tmp 4, .tmp 5]) rfl [0, 1, 4, 5] [12] false (by simp) ?_
  unfold strings_Builder_WriteString at hq
  simp only [initEnv, List.map_cons, List.map_nil, List.getD_cons_zero, List.getD_cons_succ, List.getD_nil, V.demote]
  have hlt0 : id0 < h.length := (List.getElem?_eq_some_iff.1 h00).1
  have hlen : ∀ (c0 : AObj), List.length (List.set h id0 c0) = h.length := by intros; simp only [List.length_set]
  have hg0 : ∀ (c0 : AObj), ((List.set h id0 c0) : List AObj)[id0]? = some c0 := by intros; simp [List.getElem?_set, hlt0]
  have hgl0 : ∀ (c0 : AObj) (L : List AObj), ((List.set h id0 c0) ++ L)[id0]? = some c0 := by intros; rw [List.getElem?_append_left (by rw [hlen]; exact hlt0)]; exact hg0 _
  have hs0 : ∀ (c0 : AObj) (x : AObj), List.set (List.set h id0 c0) id0 x = (List.set h id0 x) := by intros; simp only [List.set_set]
  have hsl0 : ∀ (c0 : AObj) (x : AObj) (L : List AObj), List.set ((List.set h id0 c0) ++ L) id0 x = (List.set h id0 x) ++ L := by intros; rw [List.set_append_left _ _ (by rw [hlen]; exact hlt0), hs0]
  have hgL : ∀ (c0 : AObj) (L : List AObj) (j : Nat), ((List.set h id0 c0) ++ L)[h.length + j]? = L[j]? := by intro c0 L j; have := get_loc (h := (List.set h id0 c0)) (L := L) (j := j); rwa [hlen] at this
  have hgL0 : ∀ (c0 : AObj) (L : List AObj), ((List.set h id0 c0) ++ L)[h.length]? = L[0]? := fun c0 L => hgL c0 L 0
  have hsL : ∀ (c0 : AObj) (L : List AObj) (j : Nat) (x : AObj), List.set ((List.set h id0 c0) ++ L) (h.length + j) x = (List.set h id0 c0) ++ List.set L j x := by intro c0 L j x; have := set_loc (h := (List.set h id0 c0)) (L := L) (j := j) (o := x); rwa [hlen] at this
  have hsL0 : ∀ (c0 : AObj) (L : List AObj) (x : AObj), List.set ((List.set h id0 c0) ++ L) h.length x = (List.set h id0 c0) ++ List.set L 0 x := fun c0 L x => hsL c0 L 0 x
  refine wp_heap (h' := (List.set h id0 (.cells 38 [selfp id0 o0_0, .own 5 1 (List.map byteV o0_1)]))) (by rw [set_same h00]) ?_
  rw [wp_seq]
  refine wp_region_i (by rfl) ?_
  simp only [go_sem, ↓evs_eq, Nat.reduceAdd, ↓reduceIte, Nat.reduceEqDiff, Nat.reduceBEq, Nat.reduceBNe, Nat.reduceLT, Int.reduceToNat, Int.reduceEq, Int.reduceLT, Int.reduceLE, reduceCtorEq, Nat.reduceMul, Nat.reduceLeDiff, hg0, hgl0, hs0, hsl0, hgL, hgL0, hsL, hsL0, hlen]
  rw [wp_seq]
  refine wp_region_i (by rfl) ?_
  simp only [go_sem, ↓evs_eq, Nat.reduceAdd, ↓reduceIte, Nat.reduceEqDiff, Nat.reduceBEq, Nat.reduceBNe, Nat.reduceLT, Int.reduceToNat, Int.reduceEq, Int.reduceLT, Int.reduceLE, reduceCtorEq, Nat.reduceMul, Nat.reduceLeDiff, hg0, hgl0, hs0, hsl0, hgL, hgL0, hsL, hsL0, hlen]
  obtain ⟨K7, hK8, hq⟩ := R.post_cut_sure hq
  refine strings_Builder_copyCheck_call (o0_0 := o0_0) (o0_1 := o0_1) (id0 := id0) (by first | (simp only [go_sem, ↓evs_eq, Nat.reduceAdd, ↓reduceIte, Nat.reduceEqDiff, Nat.reduceBEq, Nat.reduceBNe, Nat.reduceLT, Int.reduceToNat, Int.reduceEq, Int.reduceLT, Int.reduceLE, reduceCtorEq, Nat.reduceMul, Nat.reduceLeDiff, hg0, hgl0, hs0, hsl0, hgL, hgL0, hsL, hsL0, hlen] <;> rfl) | assumption | rfl) hq (fun r4 hq => ?_) (fun v hv => hv.elim)
  replace hq := hK8 _ hq
  simp only [go_sem, ↓evs_eq, Nat.reduceAdd, ↓reduceIte, Nat.reduceEqDiff, Nat.reduceBEq, Nat.reduceBNe, Nat.reduceLT, Int.reduceToNat, Int.reduceEq, Int.reduceLT, Int.reduceLE, reduceCtorEq, Nat.reduceMul, Nat.reduceLeDiff, hg0, hgl0, hs0, hsl0, hgL, hgL0, hsL, hsL0, hlen]
  rw [wp_seq]
  refine wp_region_i (by rfl) ?_
  obtain ⟨g6, hq⟩ := R.guard hq
  simp only [go_sem, ↓evs_eq, Nat.reduceAdd, ↓reduceIte, Nat.reduceEqDiff, Nat.reduceBEq, Nat.reduceBNe, Nat.reduceLT, Int.reduceToNat, Int.reduceEq, Int.reduceLT, Int.reduceLE, reduceCtorEq, Nat.reduceMul, Nat.reduceLeDiff, hg0, hgl0, hs0, hsl0, hgL, hgL0, hsL, hsL0, hlen]
  repeat (with_reducible refine And.intro (by first | omega | assumption) ?_)
  rw [wp_seq]
  refine wp_region_i (by rfl) ?_
  simp only [go_sem, ↓evs_eq, Nat.reduceAdd, ↓reduceIte, Nat.reduceEqDiff, Nat.reduceBEq, Nat.reduceBNe, Nat.reduceLT, Int.reduceToNat, Int.reduceEq, Int.reduceLT, Int.reduceLE, reduceCtorEq, Nat.reduceMul, Nat.reduceLeDiff, hg0, hgl0, hs0, hsl0, hgL, hgL0, hsL, hsL0, hlen]
  rw [wp_ret]
  simp only [retQ, results, resultAll, resultOne, Nat.zero_add, scopeQ, go_sem, ↓evs_eq, Nat.reduceAdd, ↓reduceIte, Nat.reduceEqDiff, Nat.reduceBEq, Nat.reduceBNe, Nat.reduceLT, Int.reduceToNat, Int.reduceEq, Int.reduceLT, Int.reduceLE, reduceCtorEq, Nat.reduceMul, Nat.reduceLeDiff, hg0, hgl0, hs0, hsl0, hgL, hgL0, hsL, hsL0, hlen]
  refine ⟨_, (.refl _), ?_⟩
  exact hK _ hq
end Go.Proofs.YtmjohmefhikelaaDoor.Pv
