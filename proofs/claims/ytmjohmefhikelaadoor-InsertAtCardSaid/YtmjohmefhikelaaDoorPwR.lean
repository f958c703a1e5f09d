/- The pure evaluator, part R: a region of plain operations comes to the same in whatever order. -/
import Derived.Test.YtmjohmefhikelaaDoorPwQ
set_option linter.unusedVariables false
set_option linter.unusedSimpArgs false
namespace Go.Proofs.YtmjohmefhikelaaDoor.Pv
open Go

/-- Alike at every slot. -/
abbrev Same (e e' : Env) : Prop := ∀ x, e.get x = e'.get x

theorem get_put_self : ∀ (e : Env) (i : Nat) (v : V), (e.put i v).get i = v
  | [], i, v => by simp [Env.put, Env.get]
  | (j, u) :: r, i, v => by
    simp only [Env.put]
    by_cases h : i = j
    · rw [if_pos h]; simp [Env.get, h]
    · rw [if_neg h]; simp only [Env.get, if_neg h]; exact get_put_self r i v
theorem get_put_ne {i x : Nat} (hx : x ≠ i) : ∀ (e : Env) (v : V), (e.put i v).get x = e.get x
  | [], v => by simp [Env.put, Env.get, hx]
  | (j, u) :: r, v => by
    simp only [Env.put]
    by_cases h : i = j
    · rw [if_pos h]; subst h; simp [Env.get, hx]
    · rw [if_neg h]; simp only [Env.get]; rw [get_put_ne hx r v]
theorem Same.put {e e' : Env} (h : Same e e') (i : Nat) (v : V) : Same (e.put i v) (e'.put i v) := by
  intro x
  by_cases hx : x = i
  · subst hx; rw [get_put_self, get_put_self]
  · rw [get_put_ne hx, get_put_ne hx]; exact h x

/-- The slots that an operand reads. -/
def rd : Operand → List Nat
  | .tmp i => [i]
  | _ => []
def rdo : Option Operand → List Nat
  | some x => rd x
  | none => []
/-- The slots that a plain operation reads; none: it is not of the plain ones. -/
def reads (o : Oper) : Option (List Nat) :=
  match o.op with
  | .move x | .assign x => some (rd x)
  | .pick c a b => some (rd c ++ (rd a ++ rd b))
  | .load _ a => some (rd a)
  | .nilCheck x => some (rd x)
  | .binOp _ _ x y _ => some (rd x ++ rd y)
  | .unOp _ _ x => some (rd x)
  | .convert _ _ x => some (rd x)
  | .makeInterface _ x => some (rd x)
  | .slice _ x lo hi none => some (rd x ++ (rdo lo ++ rdo hi))
  | .fieldAddr _ x _ => some (rd x)
  | .field _ x _ => some (rd x)
  | .indexAddr _ x i => some (rd x ++ rd i)
  | .index _ x i => some (rd x ++ rd i)
  | .extract t _ => some (rd t)
  | .call { callee := .builtin .len, args := ⟨[x]⟩, argTypes := _ } => some (rd x)
  | .call { callee := .builtin .min, args := ⟨[x, y]⟩, argTypes := _ } => some (rd x ++ rd y)
  | .call { callee := .builtin .max, args := ⟨[x, y]⟩, argTypes := _ } => some (rd x ++ rd y)
  | .call { callee := .builtin .append, args := ⟨[.const _, x]⟩, argTypes := _ } => some (rd x)
  | .call { callee := .builtin .append, args := ⟨[.tmp s, x]⟩, argTypes := _ } => some (s :: rd x)
  | .call { callee := .value f, args := ⟨xs⟩, argTypes := _ } => some (rd f ++ xs.flatMap rd)
  | .buildSlice _ _ parts => some (parts.toList.flatMap fun p => rd p.2)
  | .slice _ x lo hi (some m) => some (rd x ++ (rdo lo ++ (rdo hi ++ rd m)))
  | .build _ parts => some (parts.toList.flatMap fun p => rd p.2)
  | .store _ a x => some (rd a ++ rd x)
  | _ => none
def isB (o : Oper) : Bool := match o.op with | .buildSlice .. => true | _ => false

section
variable {ty : Nat → Ty} {tk : List Nat} {e e' : Env} {h : H} {o : Oper}

theorem R1.res_call {r : R1} {env : Env} {h : H} {f : FuncId} {args : List V} (he : r.res env h = .call f args) : False := by cases r <;> simp [R1.res] at he
theorem load_call {t : Nat} {b c : Bool} {p : V} {env : Env} {h : H} {f : FuncId} {args : List V} (he : load ty t b c p env h = .call f args) : False := by
  unfold load loadN at he; repeat' split at he
  all_goals cases he
theorem store_call {t : Nat} {p x : V} {env : Env} {h : H} {f : FuncId} {args : List V} (he : store ty t p x env h = .call f args) : False := by
  unfold store at he; repeat' split at he
  all_goals cases he
theorem builtin_call {b : Builtin} {ts : List Nat} {xs : List Operand} {env : Env} {h : H} {f : FuncId} {args : List V} (he : builtin ty b ts xs env h = .call f args) : False := by
  unfold builtin at he; repeat' split at he
  all_goals first | cases he | exact R1.res_call he
theorem loadN_congr {c : V} {q : Prop} {k : V → H} {p : Prop} {v : V} (ha : loadN c q e h k = .val p v e h) : loadN c q e' h k = .val p v e' h := by
  cases c <;> simp only [loadN, reduceCtorEq, Res.val.injEq, and_true] at ha ⊢ <;> exact ha
theorem sliceOp_ff {t : Nat} {x : Operand} {lo hi : Option Operand} : sliceOp ty false t x lo hi e h = (slice ty t (ev ty e t x) (lo.map (ev ty e 0)) (hi.map (ev ty e 0))).res e h := rfl
theorem ev_congr {t : Nat} {x : Operand} (hl : ∀ i ∈ rd x, e.get i = e'.get i) : ev ty e t x = ev ty e' t x := by
  cases x with
  | tmp i => simp only [ev]; rw [hl i (by simp [rd])]
  | _ => rfl
theorem evo_congr {x : Option Operand} (hl : ∀ i ∈ rdo x, e.get i = e'.get i) : x.map (ev ty e 0) = x.map (ev ty e' 0) := by
  cases x with
  | none => rfl
  | some x => simp only [Option.map_some]; rw [ev_congr hl]

theorem res_congr {l : List Nat} {r r' : R1} (hr : r = r') {p : Prop} {v : V} (ha : r.res e h = .val p v e h) : ∃ e2, r'.res e' h = .val p v e2 h ∧ Same e2 e' ∧ (e2 = e' ∨ ∃ i u, i ∈ l ∧ e2 = e'.put i u) := by
  subst hr
  cases r with
  | ok q u => simp only [R1.res, Res.val.injEq] at ha; obtain ⟨rfl, rfl, _⟩ := ha; exact ⟨e', rfl, fun _ => rfl, .inl rfl⟩
  | bad => simp [R1.res] at ha

theorem evs_congr : ∀ {xs : List Operand} {ts : List Nat}, (∀ i ∈ xs.flatMap rd, e.get i = e'.get i) → ((xs.zip ts).map fun (x, t) => ev ty e t x) = ((xs.zip ts).map fun (x, t) => ev ty e' t x)
  | [], ts, _ => rfl
  | x :: xs, [], _ => rfl
  | x :: xs, t :: ts, hl => by
    simp only [List.zip_cons_cons, List.map_cons]
    rw [ev_congr (x := x) (e' := e') fun i hi => hl i (by simp [hi]), evs_congr (xs := xs) fun i hi => hl i (by simp at hi ⊢; exact .inr hi)]
/-- A call is the same, where its slots are. -/
theorem aop_congr_call {l : List Nat} (hr : reads o = some l) (hl : ∀ i ∈ l, e.get i = e'.get i) {f : FuncId} {args : List V} (ha : aop ty tk o e h = .call f args) : aop ty tk o e' h = .call f args := by
  obtain ⟨dst, op, type, pos, after, guard⟩ := o
  have hop : ∃ fo as ts, op = .call { callee := .value fo, args := as, argTypes := ts } := by
    unfold aop at ha
    split at ha
    case h_29 fo as ts ho => exact ⟨fo, as, ts, ho⟩
    case h_14 => exact (R1.res_call (sliceNil_res ty ha (by simp)).2).elim
    all_goals (exfalso; revert ha; repeat' split)
    all_goals (intro ha; first | cases ha | exact R1.res_call ha | exact load_call ha | exact store_call ha | exact builtin_call ha | exact rowApp_call _ ha | exact update_call _ ha | exact rangeOp_call _ ha | exact nextOp_call ha | exact nextM_call ha | exact entryOp_call ha | exact sliceOp_call _ ha)
  obtain ⟨fo, as, ts, rfl⟩ := hop
  obtain ⟨xs⟩ := as
  simp only [reads, Option.some.injEq] at hr
  subst hr
  simp only [aop] at ha ⊢
  rw [ev_congr (x := fo) (e' := e') fun i hi => hl i (List.mem_append_left _ hi)] at ha
  have he := evs_congr (ty := ty) (e := e) (e' := e') (xs := xs) (ts := ts.toList) fun i hi => hl i (List.mem_append_right _ hi)
  generalize ev ty e' 0 fo = q at ha ⊢
  cases q with
  | func fn fs cs =>
    cases fn with
    | func f0 =>
      simp only [] at ha ⊢
      split at ha
      · rename_i hsz
        rw [if_pos hsz, ← he]; exact ha
      · cases ha
    | _ => cases ha
  | _ => cases ha

theorem fill_congr {place : Nat → Option (Nat × Nat × Nat)} : ∀ (l : List (Nat × Operand)) (p : Prop) (cs : List V), (∀ i ∈ l.flatMap (fun p => rd p.2), e.get i = e'.get i) → fill ty place e l p cs = fill ty place e' l p cs
  | [], p, cs, _ => rfl
  | (j, x) :: r, p, cs, hl => by
    have hx : ∀ t, ev ty e t x = ev ty e' t x := fun t => ev_congr fun i hi => hl i (by simp [hi])
    simp only [fill]
    cases place j with
    | none => rfl
    | some y =>
      obtain ⟨off, size, t⟩ := y
      simp only [hx]
      exact fill_congr r _ _ fun i hi => hl i (by simp only [List.flatMap_cons, List.mem_append]; exact .inr hi)
theorem put_fix {i : Nat} {v : V} (hp : e = e.put i v) : e.get i = v := by rw [hp]; exact get_put_self e i v

/-- The same, where the slots that it reads are the same. -/
theorem aop_congr {l : List Nat} (hr : reads o = some l) (ht : tkB tk o.dst = false ∨ isB o = true) (hl : ∀ i ∈ l, e.get i = e'.get i) {p : Prop} {v : V} (ha : aop ty tk o e h = .val p v e h) :
    ∃ e2, aop ty tk o e' h = .val p v e2 h ∧ Same e2 e' ∧ (e2 = e' ∨ ∃ i u, i ∈ l ∧ e2 = e'.put i u) := by
  obtain ⟨dst, op, type, pos, after, guard⟩ := o
  simp only [reads] at hr
  split at hr
  all_goals (first | (injection hr with hr; subst hr) | cases hr)
  case h_1 x =>
    cases x with
    | tmp i =>
      simp only [aop] at ha ⊢
      replace ht := ht.resolve_right (by simp [isB])
      simp only [] at ht
      rw [ht] at ha ⊢
      simp only [Bool.false_and, Bool.false_eq_true, if_false, Res.val.injEq, and_true] at ha ⊢
      obtain ⟨hp, hv⟩ := ha
      exact ⟨e', ⟨hp, by rw [← hl i (by simp [rd])]; exact hv, rfl⟩, fun _ => rfl, .inl rfl⟩
    | _ => simp only [aop, ev, Res.val.injEq, and_true] at ha ⊢; exact ⟨e', ⟨ha.1, ha.2, rfl⟩, fun _ => rfl, .inl rfl⟩
  case h_2 x =>
    cases x with
    | tmp i =>
      simp only [aop] at ha ⊢
      have hi := hl i (by simp [rd])
      cases hn : neD i dst with
      | true =>
        simp only [hn, if_true, Res.val.injEq, and_true] at ha ⊢
        obtain ⟨hp, hv, he⟩ := ha
        refine ⟨_, ⟨hp, by rw [← hi]; exact hv, rfl⟩, fun x => ?_, .inr ⟨i, _, by simp [rd], rfl⟩⟩
        have hd := put_fix he.symm
        by_cases hx : x = i
        · subst hx; rw [get_put_self, ← hi]; exact hd.symm
        · rw [get_put_ne hx]
      | false =>
        simp only [hn, Bool.false_eq_true, if_false, Res.val.injEq, and_true] at ha ⊢
        exact ⟨e', ⟨ha.1, by rw [← hi]; exact ha.2, rfl⟩, fun _ => rfl, .inl rfl⟩
    | _ => simp only [aop, ev, Res.val.injEq, and_true] at ha ⊢; exact ⟨e', ⟨ha.1, ha.2, rfl⟩, fun _ => rfl, .inl rfl⟩
  case h_3 c a b =>
    simp only [aop] at ha ⊢
    refine res_congr ?_ ha
    rw [ev_congr (x := c) (e' := e') fun i hi => hl i (by simp [hi]), ev_congr (x := a) (e' := e') fun i hi => hl i (by simp [hi]), ev_congr (x := b) (e' := e') fun i hi => hl i (by simp [hi])]
  case h_4 t a =>
    simp only [aop] at ha ⊢
    replace ht := ht.resolve_right (by simp [isB])
    simp only [] at ht
    rw [ht] at ha ⊢
    rw [ev_congr (x := a) (e' := e') hl] at ha
    generalize ev ty e' 0 a = q at ha ⊢
    unfold load at ha ⊢
    cases q <;> simp only [reduceCtorEq] at ha ⊢
    case imm cs => simp only [Res.val.injEq, and_true] at ha ⊢; exact ⟨e', ⟨ha.1, ha.2, rfl⟩, fun _ => rfl, .inl rfl⟩
    case ref id off =>
      cases hrw : h.row id with
      | none => rw [hrw] at ha; simp at ha
      | some cs =>
        rw [hrw] at ha
        simp only [Bool.false_eq_true, if_false] at ha ⊢
        split at ha <;> rename_i hagg
        · simp only [Res.val.injEq, and_true] at ha
          simp only [hagg, if_true, Res.val.injEq, and_true]
          exact ⟨e', ⟨ha.1, ha.2, rfl⟩, fun _ => rfl, .inl rfl⟩
        · simp only [hagg, if_false, Bool.false_eq_true]
          split at ha <;> rename_i hln
          · simp only [Res.val.injEq, and_true] at ha
            simp only [hln, if_true, Res.val.injEq, and_true]
            exact ⟨e', ⟨ha.1, ha.2, rfl⟩, fun _ => rfl, .inl rfl⟩
          · simp only [hln, if_false, Bool.false_eq_true]
            exact ⟨e', loadN_congr ha, fun _ => rfl, .inl rfl⟩
  case h_5 x =>
    simp only [aop] at ha ⊢
    rw [ev_congr (x := x) (e' := e') hl] at ha
    generalize ev ty e' 0 x = q at ha ⊢
    cases q <;> simp only [reduceCtorEq, Res.val.injEq, and_true] at ha ⊢ <;> exact ⟨e', ⟨ha.1, ha.2, rfl⟩, fun _ => rfl, .inl rfl⟩
  case h_6 op t x y t' =>
    simp only [aop] at ha ⊢
    rw [ev_congr (x := x) (e' := e') fun i hi => hl i (by simp [hi]), ev_congr (x := y) (e' := e') fun i hi => hl i (by simp [hi])] at ha
    obtain ⟨hn, ha⟩ := sliceNil_res ty ha (by simp)
    have hn' : sliceNil ty op t (isC x || isC y) (ev ty e' t x) (ev ty e' t' y) e' h = none := by
      unfold sliceNil at hn ⊢
      split at hn <;> first | (split at hn <;> first | (rename_i hc; exact if_neg hc) | cases hn) | rfl
    rw [hn', Option.getD_none]
    exact res_congr rfl ha
  case h_7 op t x =>
    simp only [aop] at ha ⊢
    refine res_congr ?_ ha
    rw [ev_congr (x := x) (e' := e') hl]
  case h_8 s d x =>
    simp only [aop] at ha ⊢
    refine res_congr ?_ ha
    rw [ev_congr (x := x) (e' := e') hl]
  case h_9 t x =>
    simp only [aop] at ha ⊢
    rw [ev_congr (x := x) (e' := e') hl] at ha
    split at ha <;> rename_i hk <;> simp only [reduceCtorEq, Res.val.injEq, and_true] at ha <;> simp only [Res.val.injEq, and_true] <;> exact ⟨e', ⟨ha.1, ha.2, rfl⟩, fun _ => rfl, .inl rfl⟩
  case h_10 t x lo hi =>
    simp only [aop] at ha ⊢
    replace ht := ht.resolve_right (by simp [isB])
    simp only [] at ht
    rw [ht] at ha ⊢
    rw [sliceOp_ff] at ha ⊢
    refine res_congr ?_ ha
    rw [ev_congr (x := x) (e' := e') fun i hi => hl i (by simp [hi]), evo_congr (x := lo) (e' := e') fun i hi => hl i (by simp [hi]), evo_congr (x := hi) (e' := e') fun i hi => hl i (by simp [hi])]
  case h_11 s x f =>
    simp only [aop] at ha ⊢
    rw [ev_congr (x := x) (e' := e') hl] at ha
    split at ha <;> simp only [reduceCtorEq, Res.val.injEq, and_true] at ha <;> rename_i h1 h2 <;> simp only [h1, h2, Res.val.injEq, and_true] <;> exact ⟨e', ⟨ha.1, ha.2, rfl⟩, fun _ => rfl, .inl rfl⟩
  case h_12 s x f =>
    simp only [aop] at ha ⊢
    rw [ev_congr (x := x) (e' := e') hl] at ha
    split at ha <;> simp only [reduceCtorEq, Res.val.injEq, and_true] at ha <;> rename_i h1 h2 <;> simp only [h1, h2, Res.val.injEq, and_true] <;> exact ⟨e', ⟨ha.1, ha.2, rfl⟩, fun _ => rfl, .inl rfl⟩
  case h_13 t x i =>
    simp only [aop] at ha ⊢
    refine res_congr ?_ ha
    rw [ev_congr (x := x) (e' := e') fun j hj => hl j (by simp [hj]), ev_congr (x := i) (e' := e') fun j hj => hl j (by simp [hj])]
  case h_14 t x i =>
    simp only [aop] at ha ⊢
    refine res_congr ?_ ha
    rw [ev_congr (x := x) (e' := e') fun j hj => hl j (by simp [hj]), ev_congr (x := i) (e' := e') fun j hj => hl j (by simp [hj])]
  case h_15 t i =>
    simp only [aop] at ha ⊢
    rw [ev_congr (x := t) (e' := e') hl] at ha
    generalize ev ty e' 0 t = q at ha ⊢
    cases q <;> simp only [reduceCtorEq] at ha ⊢
    case tup vs =>
      cases hv : vs[i]? with
      | none => rw [hv] at ha; simp at ha
      | some u => rw [hv] at ha; simp only [Res.val.injEq, and_true] at ha ⊢; exact ⟨e', ⟨ha.1, ha.2, rfl⟩, fun _ => rfl, .inl rfl⟩
  case h_19 c x ts =>
    simp only [aop] at ha ⊢
    split at ha
    · exact (rowApp_heap _ ha).elim
    rename_i hrw
    rw [if_neg hrw]
    match ts, ha with
    | ⟨[t, t']⟩, ha =>
      simp only [builtin] at ha ⊢
      rw [ev_congr (x := x) (e' := e') fun i hi => hl i (by simp [hi])] at ha
      split at ha
      · rename_i htt
        rw [if_pos htt]
        exact res_congr rfl ha
      · cases ha
    | ⟨[]⟩, ha => simp [builtin] at ha
    | ⟨[_]⟩, ha => simp [builtin] at ha
    | ⟨_ :: _ :: _ :: _⟩, ha => simp [builtin] at ha
  case h_20 s x ts =>
    simp only [aop] at ha ⊢
    split at ha
    · exact (rowApp_heap _ ha).elim
    rename_i hrw
    rw [if_neg hrw]
    match ts, ha with
    | ⟨[t, t']⟩, ha =>
      simp only [builtin] at ha ⊢
      rw [ev_congr (x := x) (e' := e') fun i hi => hl i (by simp [hi])] at ha
      split at ha
      · rename_i htt
        rw [if_pos htt]
        have hs := hl s (by simp)
        rw [hs] at ha
        cases hr : append ty t (e'.get s).asOwn (ev ty e' t x) with
        | ok q u =>
          rw [hr] at ha
          simp only [R1.res, Res.val.injEq, and_true] at ha ⊢
          obtain ⟨hp, hv, he⟩ := ha
          refine ⟨_, ⟨hp, hv, rfl⟩, fun y => ?_, .inr ⟨s, _, by simp, rfl⟩⟩
          have hd := put_fix he.symm
          by_cases hy : y = s
          · subst hy; rw [get_put_self]; exact (hs ▸ hd).symm
          · rw [get_put_ne hy]
        | bad => rw [hr] at ha; simp [R1.res] at ha
      · cases ha
    | ⟨[]⟩, ha => simp [builtin] at ha
    | ⟨[_]⟩, ha => simp [builtin] at ha
    | ⟨_ :: _ :: _ :: _⟩, ha => simp [builtin] at ha
  case h_21 f xs ts =>
    simp only [aop] at ha
    repeat' split at ha
    all_goals cases ha
  case h_23 t x lo hi m =>
    simp only [aop] at ha ⊢
    refine res_congr ?_ ha
    rw [ev_congr (x := x) (e' := e') fun i hi => hl i (by simp [hi]), evo_congr (x := lo) (e' := e') fun i hi => hl i (by simp [hi]), evo_congr (x := hi) (e' := e') fun i hi => hl i (by simp [hi]), ev_congr (x := m) (e' := e') fun i hi => hl i (by simp [hi])]
  case h_22 t m parts =>
    simp only [aop] at ha ⊢
    split at ha
    · rename_i el hk
      rw [fill_congr parts.toList _ _ hl] at ha
      split at ha
      · rename_i q cs hfl
        simp only [Res.val.injEq, and_true] at ha
        obtain ⟨h1, h2⟩ := ha
        refine ⟨e', ?_, fun _ => rfl, .inl rfl⟩
        simp only [hfl, Res.val.injEq, and_true]
        exact ⟨h1, h2⟩
      · cases ha
    · cases ha
  case h_24 t parts =>
    simp only [aop] at ha ⊢
    rw [fill_congr parts.toList _ _ hl] at ha
    split at ha
    · rename_i q cs hfl
      simp only [Res.val.injEq, and_true] at ha
      obtain ⟨h1, h2⟩ := ha
      refine ⟨e', ?_, fun _ => rfl, .inl rfl⟩
      simp only [hfl, Res.val.injEq, and_true]
      exact ⟨h1, h2⟩
    · cases ha
  case h_25 t a x =>
    have h0 : ev ty e 0 a = ev ty e' 0 a := ev_congr fun j hj => hl j (List.mem_append_left _ hj)
    cases x with
    | tmp i =>
      simp only [aop] at ha ⊢
      have hi := hl i (List.mem_append_right _ (by simp [rd]))
      rw [h0, hi] at ha
      unfold store at ha ⊢
      split at ha
      · split at ha
        · simp only [Res.val.injEq] at ha
          obtain ⟨h1, h2, h3, h4⟩ := ha
          have hd := put_fix h3.symm
          refine ⟨e'.put i (e'.get i).demote, ?_, fun y => ?_, .inr ⟨i, _, List.mem_append_right _ (by simp [rd]), rfl⟩⟩
          · simp only [Res.val.injEq]; exact ⟨h1, h2, trivial, h4⟩
          · by_cases hy : y = i
            · subst hy; rw [get_put_self]; exact hd.symm.trans hi
            · rw [get_put_ne hy]
        · cases ha
      · cases ha
    | _ =>
      simp only [aop] at ha ⊢
      rw [h0] at ha
      simp only [ev] at ha ⊢
      unfold store at ha ⊢
      split at ha
      · split at ha
        · simp only [Res.val.injEq] at ha
          obtain ⟨h1, h2, h3, h4⟩ := ha
          exact ⟨e', by simp only [Res.val.injEq]; exact ⟨h1, h2, trivial, h4⟩, fun _ => rfl, .inl rfl⟩
        · cases ha
      · cases ha
  case h_16 x ts =>
    simp only [aop] at ha ⊢
    split at ha
    · exact (rowApp_heap _ ha).elim
    rename_i hrw
    rw [if_neg hrw]
    match ts, ha with
    | ⟨[t]⟩, ha =>
      simp only [builtin] at ha ⊢
      refine res_congr ?_ ha
      rw [ev_congr (x := x) (e' := e') hl]
    | ⟨[]⟩, ha => simp [builtin] at ha
    | ⟨_ :: _ :: _⟩, ha => simp [builtin] at ha
  case h_17 x y ts =>
    simp only [aop] at ha ⊢
    split at ha
    · exact (rowApp_heap _ ha).elim
    rename_i hrw
    rw [if_neg hrw]
    match ts, ha with
    | ⟨[t, t']⟩, ha =>
      simp only [builtin] at ha ⊢
      refine res_congr ?_ ha
      rw [ev_congr (x := x) (e' := e') fun i hi => hl i (by simp [hi]), ev_congr (x := y) (e' := e') fun i hi => hl i (by simp [hi])]
    | ⟨[]⟩, ha => simp [builtin] at ha
    | ⟨[_]⟩, ha => simp [builtin] at ha
    | ⟨_ :: _ :: _ :: _⟩, ha => simp [builtin] at ha
  case h_18 x y ts =>
    simp only [aop] at ha ⊢
    split at ha
    · exact (rowApp_heap _ ha).elim
    rename_i hrw
    rw [if_neg hrw]
    match ts, ha with
    | ⟨[t, t']⟩, ha =>
      simp only [builtin] at ha ⊢
      refine res_congr ?_ ha
      rw [ev_congr (x := x) (e' := e') fun i hi => hl i (by simp [hi]), ev_congr (x := y) (e' := e') fun i hi => hl i (by simp [hi])]
    | ⟨[]⟩, ha => simp [builtin] at ha
    | ⟨[_]⟩, ha => simp [builtin] at ha
    | ⟨_ :: _ :: _ :: _⟩, ha => simp [builtin] at ha
end


/-! ### Any order -/
def Env.keys (e : Env) : List Nat := e.map (·.1)
def Env.kept (ks : List Nat) (e : Env) : List Nat := e.keys.filter fun j => ks.contains j

theorem keep_eq (ks : List Nat) : ∀ (e : Env), (e.kept ks).Nodup → e.keep ks = (e.kept ks).map fun k => (k, e.get k)
  | [], _ => rfl
  | (j, u) :: r, hn => by
    by_cases hj : ks.contains j = true
    · have e1 : Env.kept ks ((j, u) :: r) = j :: Env.kept ks r := by simp only [Env.kept, Env.keys, List.map_cons]; rw [List.filter_cons_of_pos hj]
      rw [e1] at hn ⊢
      obtain ⟨hne, hnr⟩ := List.nodup_cons.1 hn
      simp only [Env.keep, hj, if_true, List.map_cons, Env.get]
      rw [keep_eq ks r hnr]
      congr 1
      refine List.map_congr_left fun k hk => ?_
      have : k ≠ j := fun h => hne (h ▸ hk)
      rw [if_neg this]
    · have e1 : Env.kept ks ((j, u) :: r) = Env.kept ks r := by simp only [Env.kept, Env.keys, List.map_cons]; rw [List.filter_cons_of_neg hj]
      rw [e1] at hn ⊢
      simp only [Env.keep, hj, if_false]
      rw [keep_eq ks r hn]
      refine List.map_congr_left fun k hk => ?_
      have hk2 := (List.mem_filter.1 hk).2
      have : k ≠ j := fun h => hj (h ▸ hk2)
      simp only [Env.get, if_neg this]
theorem keys_put (i : Nat) (v : V) : ∀ e : Env, (e.put i v).keys = if i ∈ e.keys then e.keys else e.keys ++ [i]
  | [] => by simp [Env.put, Env.keys]
  | (j, u) :: r => by
    simp only [Env.put]
    by_cases h : i = j
    · rw [if_pos h]; subst h; simp [Env.keys]
    · rw [if_neg h]
      have := keys_put i v r
      simp only [Env.keys, List.map_cons, List.mem_cons, h, false_or] at this ⊢
      rw [this]
      by_cases hm : i ∈ List.map (fun x => x.fst) r
      · simp only [hm, if_true]
      · simp only [hm, if_false, List.cons_append]
/-- A put at a slot that is there, or that is not kept. -/
theorem kept_put {ks : List Nat} {e : Env} {i : Nat} (v : V) (hi : ks.contains i = true → i ∈ e.kept ks) : (e.put i v).kept ks = e.kept ks := by
  unfold Env.kept
  rw [keys_put]
  split
  · rfl
  · rename_i hni
    by_cases hk : ks.contains i = true
    · exact absurd (List.mem_filter.1 (hi hk)).1 hni
    · rw [List.filter_append, List.filter_cons_of_neg hk]; simp

section
variable (ty : Nat → Ty) (C : CallP) (n : Nat) (tk : List Nat) (ops : List Oper) (h : H)

def gslots (o : Oper) : List Nat :=
  match o.guard with
  | none => []
  | some (g, _) => match (ops[g]?).bind (·.dst) with | some t => [t] | none => []
def beforeB (j i : Nat) : Bool := decide (j < i) && match ops[i]? with | some o => o.after.toList.any (fun e => Region.binds .any e && e.on == j) | none => false
def dstL (o : Oper) : List Nat := match o.dst with | some d => [d] | none => []
def ordOne (i : Nat) (o : Oper) : Bool :=
  match reads o with
  | some l => ((dstL o).all fun d => (!tk.contains d || isB o) && !(l ++ gslots ops o).contains d) && (o.after.toList.all (fun e => !Region.binds .any e || decide (e.on < i))) &&
      (List.range ops.length).all fun j => (j == i) || match (ops[j]?).bind (·.dst) with
        | some dj => !(dstL o).contains dj && (!(l ++ gslots ops o).contains dj || beforeB ops j i || beforeB ops i j)
        | none => true
  | none => false
def ordB : Bool := (List.range ops.length).all fun i => match ops[i]? with | some o => ordOne tk ops i o | none => false
/-- The slots of a region that are kept are there ahead of it, and no slot is there twice. -/
def keptB (ks : List Nat) (keys : List Nat) : Bool :=
  decide ((keys.filter fun j => ks.contains j).Nodup) && ops.all fun o => ((match o.dst with | some d => [d] | none => []) ++ (reads o).getD []).all fun i => !ks.contains i || keys.contains i

def pureK (want : Option Bool) (o : Oper) (e : Env) (K : Env → Prop) : Prop :=
  match want with
  | some true => (match aop ty tk o e h with | .val p v e' h' => p ∧ e' = e ∧ h' = h ∧ dstOk n o.dst ∧ K (putD o.dst e v) | .call f args => ∃ v, (∀ Q : Out → H → Prop, Q (.ret v) h → C f args h Q) ∧ dstOk n o.dst ∧ K (putD o.dst e v) | _ => False)
  | some false => dstOk n o.dst ∧ K (putD o.dst e (.tup []))
  | none => False
/-- In the text's order, where nothing but slots is written. -/
def evalPure : List Oper → (Env → Prop) → Env → Prop
  | [], K => K
  | o :: os, K => fun e => pureK ty C n tk h (wanted ops o e) o e (evalPure os K)

def StepAt (o : Oper) (e : Env) (v : V) : Prop := dstOk n o.dst ∧ ((wanted ops o e = some true ∧ ∃ p, aop ty tk o e h = .val p v e h ∧ p) ∨ (wanted ops o e = some false ∧ v = .tup []) ∨ (wanted ops o e = some true ∧ ∃ f args, aop ty tk o e h = .call f args ∧ ∀ Q : Out → H → Prop, Q (.ret v) h → C f args h Q))
def putsL : Env → List Oper → List V → Env
  | e, o :: os, v :: vs => putsL (putD o.dst e v) os vs
  | e, _, _ => e
end

section
variable {ty : Nat → Ty} {C : CallP} {n : Nat} {tk : List Nat} {ops : List Oper} {h : H}

theorem pureK_step {o : Oper} {e : Env} {K : Env → Prop} (hp : pureK ty C n tk h (wanted ops o e) o e K) : ∃ v, StepAt ty C n tk ops h o e v ∧ K (putD o.dst e v) := by
  unfold pureK at hp
  cases hw : wanted ops o e with
  | none => rw [hw] at hp; exact hp.elim
  | some b =>
    rw [hw] at hp
    cases b with
    | false => exact ⟨.tup [], ⟨hp.1, .inr (.inl ⟨hw, rfl⟩)⟩, hp.2⟩
    | true =>
      simp only [] at hp
      cases ha : aop ty tk o e h with
      | val p v e' h' =>
        rw [ha] at hp
        obtain ⟨h1, rfl, rfl, h4, h5⟩ := hp
        exact ⟨v, ⟨h4, .inl ⟨hw, p, ha, h1⟩⟩, h5⟩
      | call f args =>
        rw [ha] at hp
        obtain ⟨v, h1, h2, h3⟩ := hp
        exact ⟨v, ⟨h2, .inr (.inr ⟨hw, f, args, ha, h1⟩)⟩, h3⟩
      | _ => rw [ha] at hp; exact hp.elim

theorem evalPure_trace {K : Env → Prop} : ∀ (l : List Oper) (e : Env), evalPure ty C n tk ops h l K e →
    ∃ vals : List V, vals.length = l.length ∧ (∀ i o v, l[i]? = some o → vals[i]? = some v → StepAt ty C n tk ops h o (putsL e (l.take i) (vals.take i)) v) ∧ K (putsL e l vals)
  | [], e, hp => ⟨[], rfl, fun i o v ho => by simp at ho, hp⟩
  | o :: os, e, hp => by
    obtain ⟨v, hs, hk⟩ := pureK_step hp
    obtain ⟨vals, hl, hst, hK⟩ := evalPure_trace os _ hk
    refine ⟨v :: vals, by simp [hl], fun i o' v' ho hv => ?_, hK⟩
    cases i with
    | zero => simp at ho hv; subst ho; subst hv; exact hs
    | succ i => simp at ho hv; exact hst i o' v' ho hv

theorem putsL_none {x : Nat} : ∀ (l : List Oper) (vals : List V) (e : Env), (∀ (k : Nat) (o : Oper), l[k]? = some o → o.dst ≠ some x) → (putsL e l vals).get x = e.get x
  | [], _, e, _ => rfl
  | o :: os, [], e, _ => rfl
  | o :: os, v :: vs, e, hn => by
    simp only [putsL]
    rw [putsL_none os vs _ (fun k o' ho => hn (k + 1) o' (by simpa using ho))]
    have h0 := hn 0 o rfl
    cases hd : o.dst with
    | none => rfl
    | some d => simp only [putD]; rw [get_put_ne]; intro hx; rw [hd, hx] at h0; exact h0 rfl
theorem putsL_some {x : Nat} : ∀ (l : List Oper) (vals : List V) (e : Env) (j : Nat) (o : Oper) (v : V), l[j]? = some o → o.dst = some x → vals[j]? = some v → (∀ (k : Nat) (o' : Oper), l[k]? = some o' → o'.dst = some x → k = j) → (putsL e l vals).get x = v
  | [], _, e, j, o, v, hj, _, _, _ => by simp at hj
  | o :: os, [], e, j, o', v, _, _, hv, _ => by simp at hv
  | o :: os, u :: vs, e, j, o', v, hj, hd, hv, hu => by
    simp only [putsL]
    cases j with
    | zero =>
      simp at hj hv; subst hj; subst hv
      rw [putsL_none os vs _ (fun k o' ho hx => by have := hu (k + 1) o' (by simpa using ho) hx; omega), hd]
      exact get_put_self _ _ _
    | succ j =>
      simp at hj hv
      exact putsL_some os vs _ j o' v hj hd hv fun k o'' ho hx => by have := hu (k + 1) o'' (by simpa using ho) hx; omega

/-- What holds while the operations come up in some order. -/
structure AnyInv (ops : List Oper) (vals : List V) (ks : List Nat) (e0 : Env) (listed : Array Bool) (e : Env) : Prop where
  size : listed.size = ops.length
  done : ∀ j o d v, ops[j]? = some o → o.dst = some d → listed.getD j false = true → vals[j]? = some v → e.get d = v
  rest : ∀ x, (∀ j o, ops[j]? = some o → o.dst = some x → listed.getD j false = false) → e.get x = e0.get x
  closed : ∀ j o, ops[j]? = some o → listed.getD j false = true → ∀ a ∈ o.after, Region.binds .any a = true → listed.getD a.on false = true
  kept : e.kept ks = e0.kept ks

structure Ord1 (tk : List Nat) (ops : List Oper) (i : Nat) (o : Oper) (d : Option Nat) (l : List Nat) : Prop where
  dst : o.dst = d
  reads : reads o = some l
  tk : tkB tk o.dst = false ∨ isB o = true
  back : ∀ a ∈ o.after, Region.binds .any a = true → a.on < i
  own : ∀ x ∈ l ++ gslots ops o, some x ≠ d
  other : ∀ j oj dj, ops[j]? = some oj → oj.dst = some dj → j ≠ i → some dj ≠ d ∧ (dj ∈ l ++ gslots ops o → beforeB ops j i = true ∨ beforeB ops i j = true)

theorem ord_one (ho : ordB tk ops = true) {i : Nat} {o : Oper} (hi : ops[i]? = some o) : ∃ d l, Ord1 tk ops i o d l := by
  have hlt : i < ops.length := (List.getElem?_eq_some_iff.1 hi).1
  have h1 := List.all_eq_true.1 ho i (List.mem_range.2 hlt)
  rw [hi] at h1
  simp only [] at h1
  unfold ordOne at h1
  split at h1
  · rename_i l hr
    simp only [Bool.and_eq_true] at h1
    obtain ⟨⟨h1, h2⟩, h4⟩ := h1
    have hdm : ∀ d, o.dst = some d → d ∈ dstL o := fun d hd => by simp [dstL, hd]
    refine ⟨o.dst, l, rfl, hr, ?_, fun a ha hb => ?_, fun x hx hxd => ?_, fun j oj dj hj hdj hne => ?_⟩
    · cases hd : o.dst with
      | none => exact .inl rfl
      | some d =>
        have := List.all_eq_true.1 h1 d (hdm d hd)
        simp only [Bool.and_eq_true, Bool.or_eq_true, Bool.not_eq_true'] at this
        exact this.1
    · have := List.all_eq_true.1 h2 a (by simpa using ha)
      simpa [hb] using this
    · have := List.all_eq_true.1 h1 x (hdm x hxd.symm)
      simp only [Bool.and_eq_true, Bool.not_eq_true'] at this
      rw [List.contains_iff_mem.2 hx] at this
      exact absurd this.2 (by simp)
    · have hjl : j < ops.length := (List.getElem?_eq_some_iff.1 hj).1
      have := List.all_eq_true.1 h4 j (List.mem_range.2 hjl)
      rw [hj] at this
      simp only [Option.bind_some, hdj, Bool.or_eq_true, beq_iff_eq, hne, false_or, Bool.and_eq_true, Bool.not_eq_true'] at this
      refine ⟨fun he => ?_, fun hm => ?_⟩
      · rw [List.contains_iff_mem.2 (hdm dj he.symm)] at this
        exact absurd this.1 (by simp)
      rcases this.2 with (h | h) | h
      · rw [List.contains_iff_mem.2 hm] at h; cases h
      · exact .inl h
      · exact .inr h
  · cases h1
theorem putD_ne {d : Option Nat} {x : Nat} (h : d ≠ some x) (e : Env) (v : V) : (putD d e v).get x = e.get x := by
  cases d with
  | none => rfl
  | some d => exact get_put_ne (fun he => h (by rw [he])) e v
theorem putD_self {d : Option Nat} {x : Nat} (h : d = some x) (e : Env) (v : V) : (putD d e v).get x = v := by
  subst h; exact get_put_self e x v
theorem kept_putD {ks : List Nat} {e : Env} {d : Option Nat} (v : V) (hi : ∀ x, d = some x → ks.contains x = true → x ∈ e.kept ks) : (putD d e v).kept ks = e.kept ks := by
  cases d with
  | none => rfl
  | some d => exact kept_put v (hi d rfl)

theorem beforeB_spec {i j : Nat} {o : Oper} (hi : ops[i]? = some o) (h : beforeB ops j i = true) : j < i ∧ ∃ a ∈ o.after, Region.binds .any a = true ∧ a.on = j := by
  unfold beforeB at h
  rw [hi] at h
  simp only [Bool.and_eq_true, decide_eq_true_eq] at h
  obtain ⟨h1, h2⟩ := h
  obtain ⟨a, ha, hb⟩ := List.any_eq_true.1 h2
  simp only [Bool.and_eq_true, beq_iff_eq] at hb
  exact ⟨h1, a, by simpa using ha, hb.1, hb.2⟩

theorem wanted_congr {o : Oper} {e e' : Env} (hl : ∀ x ∈ gslots ops o, e.get x = e'.get x) : wanted ops o e = wanted ops o e' := by
  unfold wanted
  unfold gslots at hl
  cases hg : o.guard with
  | none => rfl
  | some gb =>
    obtain ⟨g, b⟩ := gb
    rw [hg] at hl
    simp only [] at hl ⊢
    cases ht : (ops[g]?).bind (·.dst) with
    | none => rfl
    | some t => rw [ht] at hl; simp only [] at hl ⊢; rw [hl t (by simp)]

/-- At an operation that may come up, its slots read as in the text's order. -/
theorem inv_reads (ho : ordB tk ops = true) {vals : List V} (hvl : vals.length = ops.length) {ks : List Nat} {e0 e : Env} {listed : Array Bool} (inv : AnyInv ops vals ks e0 listed e) {i : Nat} {o : Oper} {d : Option Nat} {l : List Nat} (hi : ops[i]? = some o) (hO : Ord1 tk ops i o d l)
    (hun : listed.getD i true = false) (hrd : ∀ a ∈ o.after, Region.binds .any a = true → listed.getD a.on false = true) : ∀ x ∈ l ++ gslots ops o, (putsL e0 (ops.take i) (vals.take i)).get x = e.get x := by
  intro x hx
  have hli : i < listed.size := by rw [inv.size]; exact (List.getElem?_eq_some_iff.1 hi).1
  have hun' : listed.getD i false = false := by
    simp only [Array.getD_eq_getD_getElem?, Array.getElem?_eq_getElem hli, Option.getD_some] at hun ⊢; exact hun
  by_cases hw : ∃ (j : Nat) (oj : Oper), ops[j]? = some oj ∧ oj.dst = some x
  · obtain ⟨j, oj, hj, hdj⟩ := hw
    have hne : j ≠ i := by
      rintro rfl
      rw [hi] at hj; injection hj with hj; subst hj
      exact hO.own x hx (hdj.symm.trans hO.dst)
    obtain ⟨dj, lj, hOj⟩ := ord_one ho hj
    have huniq : ∀ (k : Nat) (o' : Oper), ops[k]? = some o' → o'.dst = some x → k = j := by
      intro k o' hk hdk
      apply Classical.byContradiction
      intro hkj
      have := (hOj.other k o' x hk hdk hkj).1
      have hd2 := hOj.dst; rw [hdj] at hd2
      exact this hd2
    rcases (hO.other j oj x hj hdj hne).2 hx with hb | hb
    · obtain ⟨hlt, a, ha, hbd, rfl⟩ := beforeB_spec hi hb
      have hs := hrd a ha hbd
      have hjv : a.on < vals.length := by have := (List.getElem?_eq_some_iff.1 hj).1; omega
      rw [inv.done a.on oj x vals[a.on] hj hdj hs (List.getElem?_eq_getElem hjv)]
      refine putsL_some _ _ _ a.on oj _ ?_ hdj ?_ fun k o' hk hdk => ?_
      · rw [List.getElem?_take, if_pos hlt]; exact hj
      · rw [List.getElem?_take, if_pos hlt]; exact List.getElem?_eq_getElem hjv
      · rw [List.getElem?_take] at hk
        split at hk
        · exact huniq k o' hk hdk
        · cases hk
    · obtain ⟨hlt, a, ha, hbd, haj⟩ := beforeB_spec hj hb
      have hnj : listed.getD j false = false := by
        cases hs : listed.getD j false with
        | false => rfl
        | true => have := inv.closed j oj hj hs a ha hbd; rw [haj, hun'] at this; cases this
      rw [inv.rest x fun k ok hk hdk => by rw [huniq k ok hk hdk]; exact hnj]
      refine putsL_none _ _ _ fun k o' hk hdk => ?_
      rw [List.getElem?_take] at hk
      split at hk
      · have := huniq k o' hk hdk; omega
      · cases hk
  · have hno : ∀ (k : Nat) (o' : Oper), ops[k]? = some o' → o'.dst ≠ some x := fun k o' hk hdk => hw ⟨k, o', hk, hdk⟩
    rw [inv.rest x fun k ok hk hdk => absurd hdk (hno k ok hk)]
    refine putsL_none _ _ _ fun k o' hk => ?_
    rw [List.getElem?_take] at hk
    split at hk
    · exact hno k o' hk
    · cases hk

theorem all_listed (ho : ordB tk ops = true) {listed : Array Bool} (hsz : listed.size = ops.length) (hr : Region.ready .any ops.toArray listed = []) : ∀ j, j < ops.length → listed.getD j false = true := by
  intro j
  induction j using Nat.strongRecOn with
  | ind j ih =>
    intro hj
    cases hs : listed.getD j false with
    | true => rfl
    | false =>
      exfalso
      obtain ⟨d, l, hO⟩ := ord_one ho (List.getElem?_eq_getElem hj)
      have hmem : j ∈ Region.ready .any ops.toArray listed := by
        rw [mem_ready]
        refine ⟨?_, ops[j], by simp [hj], fun a ha hb => ?_⟩
        · have hjl : j < listed.size := by omega
          simp only [Array.getD_eq_getD_getElem?, Array.getElem?_eq_getElem hjl, Option.getD_some] at hs ⊢; exact hs
        · have := hO.back a ha hb
          exact ih a.on this (by omega)
      rw [hr] at hmem
      cases hmem

theorem count_set {l : List Bool} {i : Nat} (h : l[i]? = some false) : (l.set i true).count false + 1 = l.count false := by
  obtain ⟨hi, hv⟩ := List.getElem?_eq_some_iff.1 h
  rw [List.count_set hi, hv]
  have : 0 < l.count false := List.count_pos_iff.2 (hv ▸ List.getElem_mem hi)
  simp
  omega

/-- One operation, in some order. -/
theorem inv_step (ho : ordB tk ops = true) {vals : List V} (hvl : vals.length = ops.length) {ks : List Nat} {e0 e : Env} (hkb : keptB ops ks e0.keys = true) {listed : Array Bool} (inv : AnyInv ops vals ks e0 listed e) {i : Nat} {o : Oper} {d : Option Nat} {l : List Nat} (hi : ops[i]? = some o) (hO : Ord1 tk ops i o d l)
    (hun : listed.getD i true = false) (hrd : ∀ a ∈ o.after, Region.binds .any a = true → listed.getD a.on false = true) {v : V} (hv : vals[i]? = some v) {e2 : Env} (hs : Same e2 e) (he2 : e2 = e ∨ ∃ k u, k ∈ l ∧ e2 = e.put k u) :
    AnyInv ops vals ks e0 (listed.setIfInBounds i true) (putD o.dst e2 v) := by
  have hli : i < listed.size := by rw [inv.size]; exact (List.getElem?_eq_some_iff.1 hi).1
  have hset : ∀ j, j ≠ i → (listed.setIfInBounds i true).getD j false = listed.getD j false := fun j hj => getD_set_ne false (Ne.symm hj)
  have hseti : (listed.setIfInBounds i true).getD i false = true := by simp [hli]
  have hkin : ∀ k, (o.dst = some k ∨ k ∈ l) → ks.contains k = true → k ∈ e0.kept ks := by
    intro k hk hc
    unfold keptB at hkb
    simp only [Bool.and_eq_true] at hkb
    have h1 := List.all_eq_true.1 hkb.2 o (List.mem_of_getElem? hi)
    rw [hO.reads] at h1
    have h2 := List.all_eq_true.1 h1 k (by rcases hk with hk | hk <;> simp [hk])
    rw [hc] at h2
    simp only [Bool.not_true, Bool.false_or] at h2
    exact List.mem_filter.2 ⟨List.contains_iff_mem.1 h2, hc⟩
  refine ⟨by simpa using inv.size, fun j oj dj u hj hdj hs' hu => ?_, fun x hx => ?_, fun j oj hj hs' a ha hb => ?_, ?_⟩
  · by_cases hji : j = i
    · subst hji
      rw [hi] at hj; injection hj with hj; subst hj
      rw [hv] at hu; injection hu with hu; subst hu
      exact putD_self hdj _ _
    · rw [hset j hji] at hs'
      rw [putD_ne (fun he => (hO.other j oj dj hj hdj hji).1 (he.symm.trans hO.dst)), hs dj]
      exact inv.done j oj dj u hj hdj hs' hu
  · have hxd : o.dst ≠ some x := by
      intro hd
      have := hx i o hi hd
      rw [hseti] at this; cases this
    rw [putD_ne hxd, hs x]
    refine inv.rest x fun j oj hj hdj => ?_
    have := hx j oj hj hdj
    by_cases hji : j = i
    · subst hji; rw [hseti] at this; cases this
    · rw [hset j hji] at this; exact this
  · by_cases hji : j = i
    · subst hji
      rw [hi] at hj; injection hj with hj; subst hj
      exact getD_set_true (hrd a ha hb)
    · rw [hset j hji] at hs'
      exact getD_set_true (inv.closed j oj hj hs' a ha hb)
  · have hk2 : e2.kept ks = e0.kept ks := by
      rcases he2 with rfl | ⟨k, u, hk, rfl⟩
      · exact inv.kept
      · rw [kept_put u fun hc => by rw [inv.kept]; exact hkin k (.inr hk) hc]
        exact inv.kept
    rw [kept_putD v fun x hd hc => by rw [hk2]; exact hkin x (.inl hd) hc]
    exact hk2

/-- In any order, as in the text's. -/
theorem any_of_pure (ho : ordB tk ops = true) {ks : List Nat} {e0 : Env} (hkb : keptB ops ks e0.keys = true) {Q : Env → Prop} {X : V → Env → H → Prop} (hp : evalPure ty C n tk ops h ops (fun e => Q (e.keep ks)) e0) :
    evalAny ty C n tk ops (fun e h' => h' = h ∧ Q (e.keep ks)) X ops.length (Array.replicate ops.length false) e0 h := by
  obtain ⟨vals, hvl, hst, hK⟩ := evalPure_trace ops e0 hp
  have hnd : (e0.kept ks).Nodup := by
    unfold keptB at hkb
    simp only [Bool.and_eq_true, decide_eq_true_eq] at hkb
    exact hkb.1
  -- the text's order's own end is an end of some order
  have hkf : (putsL e0 ops vals).kept ks = e0.kept ks := by
    have : ∀ (l : List Oper) (us : List V) (e : Env), (∀ o ∈ l, o ∈ ops) → e.kept ks = e0.kept ks → (putsL e l us).kept ks = e0.kept ks := by
      intro l
      induction l with
      | nil => intro us e _ he; exact he
      | cons o os ih =>
        intro us e hm he
        cases us with
        | nil => exact he
        | cons u us =>
          simp only [putsL]
          refine ih us _ (fun o' ho' => hm o' (List.mem_cons_of_mem _ ho')) ?_
          obtain ⟨i, hi⟩ := List.getElem?_of_mem (hm o List.mem_cons_self)
          obtain ⟨d, l', hO⟩ := ord_one ho hi
          rw [kept_putD u fun d hd hc => ?_]
          · exact he
          · rw [he]
            unfold keptB at hkb
            simp only [Bool.and_eq_true] at hkb
            have h1 := List.all_eq_true.1 hkb.2 o (hm o List.mem_cons_self)
            have h2 := List.all_eq_true.1 h1 d (by simp [hd])
            rw [hc] at h2
            simp only [Bool.not_true, Bool.false_or] at h2
            exact List.mem_filter.2 ⟨List.contains_iff_mem.1 h2, hc⟩
    exact this ops vals e0 (fun o ho => ho) rfl
  have hend : ∀ (listed : Array Bool) (e : Env), AnyInv ops vals ks e0 listed e → (∀ j, j < ops.length → listed.getD j false = true) → Q (e.keep ks) := by
    intro listed e inv hall
    have hsame : ∀ x, e.get x = (putsL e0 ops vals).get x := by
      intro x
      by_cases hw : ∃ (j : Nat) (oj : Oper), ops[j]? = some oj ∧ oj.dst = some x
      · obtain ⟨j, oj, hj, hdj⟩ := hw
        have hjl := (List.getElem?_eq_some_iff.1 hj).1
        have hjv : j < vals.length := by omega
        obtain ⟨dj, lj, hOj⟩ := ord_one ho hj
        rw [inv.done j oj x vals[j] hj hdj (hall j hjl) (List.getElem?_eq_getElem hjv)]
        refine (putsL_some ops vals e0 j oj _ hj hdj (List.getElem?_eq_getElem hjv) fun k o' hk hdk => ?_).symm
        apply Classical.byContradiction
        intro hkj
        have := (hOj.other k o' x hk hdk hkj).1
        have hd2 := hOj.dst; rw [hdj] at hd2
        exact this hd2
      · have hno : ∀ (k : Nat) (o' : Oper), ops[k]? = some o' → o'.dst ≠ some x := fun k o' hk hdk => hw ⟨k, o', hk, hdk⟩
        rw [inv.rest x fun k ok hk hdk => absurd hdk (hno k ok hk)]
        exact (putsL_none _ _ _ hno).symm
    rw [keep_eq ks e (by rw [inv.kept]; exact hnd), inv.kept]
    rw [keep_eq ks (putsL e0 ops vals) (by rw [hkf]; exact hnd), hkf] at hK
    rw [List.map_congr_left (g := fun k => (k, (putsL e0 ops vals).get k)) fun k _ => by rw [hsame k]]
    exact hK
  have main : ∀ (k : Nat) (listed : Array Bool) (e : Env), AnyInv ops vals ks e0 listed e → listed.toList.count false = k → evalAny ty C n tk ops (fun e h' => h' = h ∧ Q (e.keep ks)) X k listed e h := by
    intro k
    induction k with
    | zero =>
      intro listed e inv hc
      have hall : ∀ j, j < ops.length → listed.getD j false = true := by
        intro j hj
        have hjl : j < listed.size := by rw [inv.size]; exact hj
        have hne := List.count_eq_zero.1 hc
        simp only [Array.getD_eq_getD_getElem?, Array.getElem?_eq_getElem hjl, Option.getD_some]
        cases hb : listed[j] with
        | true => rfl
        | false => exact absurd (by rw [← hb]; exact Array.getElem_mem_toList hjl) hne
      refine ⟨?_, rfl, hend listed e inv hall⟩
      rw [List.eq_nil_iff_forall_not_mem]
      intro j hj
      rw [mem_ready] at hj
      obtain ⟨h0, o, hoj, _⟩ := hj
      have hjl : j < ops.length := by have := (Array.getElem?_eq_some_iff.1 hoj).1; simpa using this
      have h1 := hall j hjl
      have hjl' : j < listed.size := by rw [inv.size]; exact hjl
      simp only [Array.getD_eq_getD_getElem?, Array.getElem?_eq_getElem hjl', Option.getD_some] at h0 h1
      rw [h0] at h1; cases h1
    | succ k ih =>
      intro listed e inv hc
      refine ⟨fun hr => ⟨rfl, hend listed e inv (all_listed ho inv.size hr)⟩, fun i hi => ?_⟩
      rw [mem_ready] at hi
      obtain ⟨hun, o, hoi, hrd⟩ := hi
      have hoi' : ops[i]? = some o := by simpa using hoi
      have hil := (List.getElem?_eq_some_iff.1 hoi').1
      obtain ⟨d, l, hO⟩ := ord_one ho hoi'
      have hiv : i < vals.length := by omega
      have hv := List.getElem?_eq_getElem hiv
      have hrdS := inv_reads ho hvl inv hoi' hO hun hrd
      obtain ⟨hdst, hcase⟩ := hst i o vals[i] hoi' hv
      have hcnt : (listed.setIfInBounds i true).toList.count false = k := by
        have hli : i < listed.size := by rw [inv.size]; exact hil
        have hun' : listed.toList[i]? = some false := by
          simp only [Array.getD_eq_getD_getElem?, Array.getElem?_eq_getElem hli, Option.getD_some] at hun
          simp [hli, hun]
        have := count_set hun'
        rw [Array.toList_setIfInBounds]
        omega
      have hwc : wanted ops o (putsL e0 (ops.take i) (vals.take i)) = wanted ops o e := wanted_congr fun x hx => hrdS x (List.mem_append_right _ hx)
      refine ⟨o, hoi', ?_⟩
      rcases hcase with ⟨hw, p, ha, hpp⟩ | ⟨hw, hvt⟩ | ⟨hw, f, args, ha, hcl⟩
      · obtain ⟨e2, ha2, hsame, hex⟩ := aop_congr hO.reads hO.tk (fun x hx => hrdS x (List.mem_append_left _ hx)) ha
        rw [← hwc, hw, runOp_tt, ha2, upon_val]
        exact ⟨hpp, hdst, ih _ _ (inv_step ho hvl hkb inv hoi' hO hun hrd hv hsame hex) hcnt⟩
      · rw [← hwc, hw, runOp_ff]
        rw [hvt] at hv
        exact ⟨hdst, ih _ _ (inv_step ho hvl hkb inv hoi' hO hun hrd hv (fun _ => rfl) (.inl rfl)) hcnt⟩
      · have ha2 := aop_congr_call hO.reads (fun x hx => hrdS x (List.mem_append_left _ hx)) ha
        rw [← hwc, hw, runOp_tt, ha2, upon_call]
        exact ⟨hdst, hcl _ (ih _ _ (inv_step ho hvl hkb inv hoi' hO hun hrd hv (fun _ => rfl) (.inl rfl)) hcnt)⟩
  refine main ops.length _ e0 ⟨by simp, fun j o d v _ _ hs => ?_, fun x _ => rfl, fun j o _ hs => ?_, rfl⟩ (by simp)
  · simp only [Array.getD_eq_getD_getElem?, Array.getElem?_replicate] at hs; split at hs <;> simp at hs
  · simp only [Array.getD_eq_getD_getElem?, Array.getElem?_replicate] at hs; split at hs <;> simp at hs

/-- A region that draws its order, where nothing but slots is written. -/
theorem wp_draw (hC : CMono C C) {ks : List Nat} {id : Nat} {l : List Oper} {Q : PostX} {e0 : Env} {h : H} (ho : ordB tk l = true) (hkb : keptB l ks e0.keys = true)
    (hp : evalPure ty C n tk l h l (fun e => Q .normal (e.keep ks) h) e0) : wp ty C n ks tk (.region id ⟨l⟩ true) Q e0 h := by
  simp only [wp, if_true]
  refine .inl ?_
  have := any_of_pure (C := C) (X := panQ Q) ho hkb (Q := fun e => Q .normal e h) hp
  refine evalAny_mono hC (fun env h' hk => ?_) (fun v env h hx => hx) _ _ _ _ this
  obtain ⟨rfl, hq⟩ := hk; exact hq

def pureR (C : CallP) (n : Nat) (h : H) (r : Res) (o : Oper) (e : Env) (K : Env → Prop) : Prop :=
  match r with
  | .val p v e' h' => p ∧ e' = e ∧ h' = h ∧ dstOk n o.dst ∧ K (putD o.dst e v)
  | .call f args => ∃ v, (∀ Q : Out → H → Prop, Q (.ret v) h → C f args h Q) ∧ dstOk n o.dst ∧ K (putD o.dst e v)
  | _ => False
theorem evalPure_nil {K : Env → Prop} {e : Env} : evalPure ty C n tk ops h [] K e = K e := rfl
theorem evalPure_cons {o : Oper} {os : List Oper} {K : Env → Prop} {e : Env} : evalPure ty C n tk ops h (o :: os) K e = pureK ty C n tk h (wanted ops o e) o e (evalPure ty C n tk ops h os K) := rfl
theorem pureK_tt {o : Oper} {K : Env → Prop} {e : Env} : pureK ty C n tk h (some true) o e K = pureR C n h (aop ty tk o e h) o e K := rfl
theorem pureK_ff {o : Oper} {K : Env → Prop} {e : Env} : pureK ty C n tk h (some false) o e K = (dstOk n o.dst ∧ K (putD o.dst e (.tup []))) := rfl
theorem pureR_val {o : Oper} {K : Env → Prop} {e e' : Env} {h' : H} {p : Prop} {v : V} : pureR C n h (.val p v e' h') o e K = (p ∧ e' = e ∧ h' = h ∧ dstOk n o.dst ∧ K (putD o.dst e v)) := rfl

theorem pureR_call {o : Oper} {K : Env → Prop} {e : Env} {f : FuncId} {args : List V} : pureR C n h (.call f args) o e K = ∃ v, (∀ Q : Out → H → Prop, Q (.ret v) h → C f args h Q) ∧ dstOk n o.dst ∧ K (putD o.dst e v) := rfl
/-- Loops: what is known ahead of each round, and what grows less. -/
theorem loop_rule {C : CallP} (hC : CMono C C) {ks : List Nat} {he : H} {b : Code} {Q : PostX} {α : Type} (m : α → Nat) (E : α → Env) (G : α → H) (I : α → Prop)
    (step : ∀ a, I a → ∀ N : Env → H → Prop, (∀ a', I a' → m a' < m a → N (E a') (G a')) → wp ty C n ks tk b (thenQ (Wk he N) Q) (E a) (G a)) : ∀ a, I a → Loop ty C n ks tk he b Q (E a) (G a) := by
  have key : ∀ (k : Nat) (a : α), m a < k → I a → Loop ty C n ks tk he b Q (E a) (G a) := by
    intro k
    induction k with
    | zero => intro a hk; omega
    | succ k ih =>
      intro a hk hi
      exact loop_step hC (step a hi _ fun a' hi' hm => ih a' (by omega) hi')
  exact fun a hi => key (m a + 1) a (by omega) hi

/-- Arguments. -/
def evs (ty : Nat → Ty) (env : Env) : List Operand → List Nat → List V
  | x :: xs, t :: ts => ev ty env t x :: evs ty env xs ts
  | _, _ => []
theorem evs_eq {env : Env} : ∀ {xs : List Operand} {ts : List Nat}, ((xs.zip ts).map fun (x, t) => ev ty env t x) = evs ty env xs ts
  | [], ts => rfl
  | x :: xs, [] => rfl
  | x :: xs, t :: ts => by simp only [List.zip_cons_cons, List.map_cons, evs, evs_eq (xs := xs) (ts := ts)]
theorem bb_tt : (true == true) = true := rfl
theorem bb_ff : (false == false) = true := rfl
theorem bb_tf : (true == false) = false := rfl
theorem bb_ft : (false == true) = false := rfl

/-- Saying nothing less. -/
theorem Weak.same (he : H) (env : Env) (h : H) : Weak he env h env h := ⟨fun _ => .refl _, fun i o ho => ⟨o, ho, .refl _⟩, .inl rfl⟩
theorem Wk.same {he : H} {K : Env → H → Prop} {env : Env} {h : H} (hk : K env h) : Wk he K env h := ⟨env, h, Weak.same he env h, hk⟩
end
end Go.Proofs.YtmjohmefhikelaaDoor.Pv
