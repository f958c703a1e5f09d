/- A run that reckons: calls, deferred closures. -/
import Derived.Test.YtpbnnbjkjaajnaaPxE
set_option linter.unusedVariables false
set_option linter.unusedSimpArgs false
set_option maxHeartbeats 1000000
namespace Go.Proofs.Ytpbnnbjkjaajnaa.Pv
open Go
noncomputable section

/-- A function, as the run reads it. -/
structure FX where
  body : Code
  ntmps : Nat
  results : List ResultVar
  keep : List Nat
  tk : List Nat
section
variable (ty : Nat → Ty) (call : FuncId → List V → H → Option (Out × H)) (n : Nat) (keep : List Nat) (mask : Nat) (tk : List Nat)
def deferOf : Code → Option (List Oper × List Oper × Operand)
  | .region _ ops false => (lastDefer ops.toList).map fun q => (ops.toList, q.1, q.2)
  | _ => none
def codeDX : Nat → Code → Env → H → Option (Option (FuncId × List V) × Ex × Env × H)
  | 0, _, _, _ => none
  | k + 1, c, env, h =>
    match c with
    | .seq x y =>
      (match deferOf x with
      | some (ops, os, f) =>
        (match opsX ty call n tk ops os (.mk [] env) h with
        | some (.normal, .mk t b, h1) =>
          (match evF ty (.mk t b) 0 f with
          | .func (.func j) [] cap => finF mask t b fun e => (match codeX ty call n keep mask tk k y e h1 with | some (ex, e2, h2) => some (some (j, cap), ex, e2, h2) | none => none)
          | _ => none)
        | some (.panic v, e, h1) => some (none, .panic v, e.toE, h1)
        | _ => none)
      | none => (match codeX ty call n keep mask tk k x env h with
        | some (.normal, e, h1) => codeDX k y e h1
        | some (ex, e, h1) => some (none, ex, e, h1)
        | none => none))
    | c => (match codeX ty call n keep mask tk k c env h with | some (ex, e, h1) => some (none, ex, e, h1) | none => none)
def isRec (o : Oper) : Bool :=
  match o.op, o.guard with
  | .call { callee := .builtin .recover, args := ⟨[]⟩, argTypes := ⟨[]⟩ }, none => true
  | _, _ => false
def closeX (tab : FuncId → Option FX) (k : Nat) (j : FuncId) (caps : List V) (pv : V) (h : H) : Option H :=
  match tab j with
  | none => none
  | some x =>
    match x.body, x.results with
    | .seq (.region _ ⟨[o1, o2]⟩ false) rest, [] =>
      (match o1.dst, o2.dst, o2.op, o2.guard with
      | some r, some y, .assign (.tmp r'), none =>
        if isRec o1 && r == r' && decide (caps.length ≤ x.ntmps) && decide (r < x.ntmps) && decide (y < x.ntmps) then
          (if Nat.beq ((((initEnv x.keep (caps.map V.demote)).put r .top).put y pv).keep x.keep).length (((initEnv x.keep (caps.map V.demote)).put r .top).put y pv).length then
            (match codeX ty call x.ntmps x.keep (maskOf x.keep) x.tk k rest (((initEnv x.keep (caps.map V.demote)).put r .top).put y pv) h with
            | some (.normal, _, h') => some h'
            | some (.ret, _, h') => some h'
            | _ => none) else none)
        else none
      | _, _, _, _ => none)
    | _, _ => none
def retX (rs : List ResultVar) (h0 : H) (env : Env) (h : H) : Option (Out × H) :=
  match results ty rs env h with
  | some v =>
    V.whnf v fun v =>
    if Nat.beq h0.length h.length then some (.ret v, h) else
    if decide (h0.length ≤ h.length) && V.clB h0.length (handed h h0.length v) && (h.take h0.length).all (AObj.clB h0.length) then V.force (handed h h0.length v) fun w => forceH (h.take h0.length) fun h2 => some (.ret w, h2)
    else some (.ret v, h)
  | none => none
def pvX : Ex → Option V
  | .normal => some .nili
  | .ret => some .nili
  | .panic v => some v
  | _ => none
end
section
variable (ty : Nat → Ty) (tab : FuncId → Option FX) (pr : FuncId → List V → H → Option (Out × H))
def callX : Nat → FuncId → List V → H → Option (Out × H)
  | 0, _, _, _ => none
  | k + 1, f, args, h =>
    match pr f args h with
    | some r => some r
    | none =>
      match tab f with
      | none => none
      | some x =>
        if args.length ≤ x.ntmps then
          forceEV (initEnv x.keep (args.map V.demote)) fun e0 => (match codeDX ty (callX k) x.ntmps x.keep (maskOf x.keep) x.tk k x.body e0 h with
          | some (none, .normal, e, h1) => retX ty x.results h e h1
          | some (none, .ret, e, h1) => retX ty x.results h e h1
          | some (none, .panic v, e, h1) => some (.panic v, h1)
          | some (some (j, cap), ex, e, h1) =>
            (match pvX ex with
            | some pv => (match closeX ty (callX k) tab k j cap pv h1 with | some h2 => retX ty x.results h e h2 | none => none)
            | none => none)
          | _ => none)
        else none
end
section
variable {ty : Nat → Ty} {call : FuncId → List V → H → Option (Out × H)} {C : CallP} {n : Nat} {keep tk : List Nat} {P : Program} {prim : CallP} {tab : FuncId → Option FX} {pr : FuncId → List V → H → Option (Out × H)}
theorem keep_len (ks : List Nat) : ∀ e : Env, (e.keep ks).length ≤ e.length ∧ ((e.keep ks).length = e.length → e.keep ks = e)
  | [] => ⟨Nat.le_refl _, fun _ => rfl⟩
  | (j, u) :: r => by
    obtain ⟨h1, h2⟩ := keep_len ks r
    simp only [Env.keep]
    by_cases hk : ks.contains j = true
    · rw [if_pos hk]
      exact ⟨by simp only [List.length_cons]; omega, fun h => by rw [h2 (by simpa using h)]⟩
    · rw [if_neg hk]
      exact ⟨by simp only [List.length_cons]; omega, fun h => by simp only [List.length_cons] at h; omega⟩
theorem init_kept (ks : List Nat) (args : List V) : (initEnv ks args).keep ks = initEnv ks args := by
  have : ∀ l : List Nat, (∀ i ∈ l, i ∈ ks) → Env.keep (l.map fun i => (i, args.getD i .top)) ks = l.map fun i => (i, args.getD i .top) := by
    intro l
    induction l with
    | nil => intro _; rfl
    | cons i l ih =>
      intro h
      simp only [List.map_cons, Env.keep]
      rw [if_pos (by simpa using h i List.mem_cons_self), ih fun j hj => h j (List.mem_cons_of_mem _ hj)]
  exact this ks fun _ h => h
theorem deferOf_some {x : Code} {ops os : List Oper} {f : Operand} (hd : deferOf x = some (ops, os, f)) : ∃ id, x = .region id ⟨ops⟩ false ∧ lastDefer ops = some (os, f) := by
  cases x <;> try (cases hd; done)
  rename_i id o d
  cases d <;> try (cases hd; done)
  simp only [deferOf, Option.map_eq_some_iff] at hd
  obtain ⟨⟨a, b⟩, h1, h2⟩ := hd
  simp only [Prod.mk.injEq] at h2
  obtain ⟨rfl, rfl, rfl⟩ := h2
  exact ⟨id, rfl, h1⟩
theorem deferOf_none {x : Code} (hd : deferOf x = none) : noDefR x = true := by
  cases x <;> try rfl
  rename_i id o d
  cases d
  · simp only [deferOf, Option.map_eq_none_iff] at hd
    simp [noDefR, hd]
  · rfl
theorem codeDX_sound (hc : CallOK C call) (hC : CMono C C) : ∀ (k : Nat) (c : Code) (env : Env) (h : H) (d : Option (FuncId × List V)) (e : Ex) (env' : Env) (h' : H), codeDX ty call n keep (maskOf keep) tk k c env h = some (d, e, env', h') → env.keep keep = env →
    ∀ (Q : PostX) (QD : FuncId → List V → PostX), (match d with | none => Q e env' h' | some (j, cap) => QD j cap e env' h') → wpD ty C n keep tk c Q QD env h
  | 0, c, env, h, d, e, env', h', hs, hkp => by cases hs
  | k + 1, c, env, h, d, e, env', h', hs, hkp => by
    intro Q QD hq
    have plain : ∀ c : Code, (∀ x y, c ≠ .seq x y) → (match codeX ty call n keep (maskOf keep) tk k c env h with | some (ex, e, h1) => some ((none : Option (FuncId × List V)), ex, e, h1) | none => none) = some (d, e, env', h') → wpD ty C n keep tk c Q QD env h := fun c hne hs => by
      split at hs
      · rename_i ex e1 h1 ho
        simp only [Option.some.injEq, Prod.mk.injEq] at hs
        obtain ⟨rfl, rfl, rfl, rfl⟩ := hs
        have := (codeX_sound hc hC k c _ _ _ _ _ ho hkp).1 Q hq
        cases c <;> first | exact this | exact absurd rfl (hne _ _)
      · cases hs
    unfold codeDX at hs
    split at hs
    · rename_i x y
      split at hs
      · rename_i ops os f hd
        obtain ⟨id, rfl, hl⟩ := deferOf_some hd
        refine wpD_defer hl ?_
        split at hs
        · rename_i t1 b1 h1 ho
          have hb1 : b1.keep keep = b1 := by have := opsX_base _ _ _ _ _ _ ho; rw [show b1 = env from this]; exact hkp
          split at hs
          · rename_i j cap hf
            simp only [finF_eq keep hb1] at hs
            split at hs
            · rename_i ex e2 h2 hy
              simp only [Option.some.injEq, Prod.mk.injEq] at hs
              obtain ⟨rfl, rfl, rfl, rfl⟩ := hs
              rw [evF_eq] at hf
              refine opsX_sound hc _ (.mk [] env) _ _ _ _ ho (fun _ => ⟨j, cap, hf, ?_⟩) (fun v hv => by cases hv)
              exact (codeX_sound hc hC k y _ _ _ _ _ hy (keep_keep _ _)).1 _ hq
            · cases hs
          · cases hs
        · rename_i v e1 h1 ho
          simp only [Option.some.injEq, Prod.mk.injEq] at hs
          obtain ⟨rfl, rfl, rfl, rfl⟩ := hs
          exact opsX_sound hc _ (.mk [] env) _ _ _ _ ho (fun he => by cases he) (fun v hv => by cases hv; exact hq)
        · cases hs
      · rename_i hd
        rw [wpD_seq (deferOf_none hd)]
        split at hs
        · rename_i e1 h1 ho
          exact (codeX_sound hc hC k x _ _ _ _ _ ho hkp).1 _ (codeDX_sound hc hC k y _ _ _ _ _ _ hs (codeX_kept k x _ _ _ _ _ ho hkp rfl) Q QD hq)
        · rename_i ex e1 h1 hne ho
          simp only [Option.some.injEq, Prod.mk.injEq] at hs
          obtain ⟨rfl, rfl, rfl, rfl⟩ := hs
          refine (codeX_sound hc hC k x _ _ _ _ _ ho hkp).1 _ ?_
          cases ex <;> first | exact hq | exact (hne rfl).elim
        · cases hs
    · rename_i hne
      exact plain _ (fun x y e => hne x y e) hs
theorem retX_ret {rs : List ResultVar} {h0 : H} {env : Env} {h : H} {r : Out} {h' : H} (hs : retX ty rs h0 env h = some (r, h')) {Q : Out → H → Prop} (hq : Q r h') : ∃ trunc, ∀ e, e = .normal ∨ e = .ret → retQ ty rs trunc h0 Q e env h := by
  unfold retX at hs
  simp only [V.force_eq, V.whnf_eq, forceH_eq] at hs
  split at hs
  · rename_i v hv
    split at hs
    · simp only [Option.some.injEq, Prod.mk.injEq] at hs
      obtain ⟨rfl, rfl⟩ := hs
      refine ⟨false, fun e he => ?_⟩
      have key : ∃ v', V.Le v v' ∧ (if false = true then leaveQ h0 h v' Q else Q (.ret v') h) := ⟨v, .refl _, by rw [if_neg (by decide)]; exact hq⟩
      rcases he with rfl | rfl <;> simp only [retQ, hv] <;> exact key
    split at hs
    · rename_i hb
      simp only [Option.some.injEq, Prod.mk.injEq] at hs
      obtain ⟨rfl, rfl⟩ := hs
      simp only [Bool.and_eq_true, decide_eq_true_eq] at hb
      refine ⟨true, fun e he => ?_⟩
      have key : ∃ v', V.Le v v' ∧ (if true = true then leaveQ h0 h v' Q else Q (.ret v') h) := ⟨v, .refl _, by
        rw [if_pos rfl]
        refine ⟨hb.1.1, V.clB_cl _ _ hb.1.2, .inr fun i o ho => .inl ?_, hq⟩
        exact AObj.clB_cl _ _ (List.all_eq_true.1 hb.2 o (List.mem_of_getElem? ho))⟩
      rcases he with rfl | rfl <;> simp only [retQ, hv] <;> exact key
    · simp only [Option.some.injEq, Prod.mk.injEq] at hs
      obtain ⟨rfl, rfl⟩ := hs
      refine ⟨false, fun e he => ?_⟩
      have key : ∃ v', V.Le v v' ∧ (if false = true then leaveQ h0 h v' Q else Q (.ret v') h) := ⟨v, .refl _, by rw [if_neg (by decide)]; exact hq⟩
      rcases he with rfl | rfl <;> simp only [retQ, hv] <;> exact key
  · cases hs
/-- The table says what the program has. -/
def TabOK (P : Program) (tab : FuncId → Option FX) : Prop := ∀ f x, tab f = some x → ∃ fn, P.funcs[f]? = some fn ∧ (fn.name == "runtime.NumGoroutine") = false ∧ fn.body = some x.body ∧ fn.ntmps = x.ntmps ∧ fn.results.toList = x.results ∧ noRangeC x.body = true
def fxOf (fn : Func) (keep tk : List Nat) : FX := ⟨fn.body.getD .skip, fn.ntmps, fn.results.toList, keep, tk⟩
def tabOf (P : Program) (kt : FuncId → Option (List Nat × List Nat)) (f : FuncId) : Option FX :=
  match kt f with
  | some (k, t) => (match P.funcs[f]? with | some fn => some (fxOf fn k t) | none => none)
  | none => none
theorem tabOf_ok {kt : FuncId → Option (List Nat × List Nat)} (h : ∀ f q, kt f = some q → ∃ fn, P.funcs[f]? = some fn ∧ (fn.name == "runtime.NumGoroutine") = false ∧ fn.body.isSome = true ∧ noRangeC (fn.body.getD .skip) = true) : TabOK P (tabOf P kt) := by
  intro f x hx
  unfold tabOf at hx
  split at hx
  · rename_i k t hk
    obtain ⟨fn, h1, h2, h3, h6⟩ := h f _ hk
    rw [h1] at hx
    simp only [Option.some.injEq] at hx
    subst hx
    refine ⟨fn, h1, h2, ?_, rfl, rfl, h6⟩
    show fn.body = some (fn.body.getD .skip)
    cases hc : fn.body with
    | none => rw [hc] at h3; cases h3
    | some c => rfl
  · cases hx
theorem isRec_eq {o : Oper} (h : isRec o = true) : o.op = .call { callee := .builtin .recover, args := #[], argTypes := #[] } ∧ o.guard = none := by
  unfold isRec at h
  split at h
  · rename_i h1 h2; exact ⟨h1, h2⟩
  · cases h
theorem closeX_sound (hc : CallOK C call) (hC : CMono C C) (ht : TabOK P tab) {k : Nat} {j : FuncId} {caps : List V} {pv : V} {h h' : H} (hs : closeX ty call tab k j caps pv h = some h') {K : H → Prop} (hk : K h') : closeC P ty C j caps pv h K := by
  unfold closeX at hs
  split at hs
  · cases hs
  rename_i x hx
  obtain ⟨fn, h1, h2, h3, h4, h5, h6⟩ := ht j x hx
  split at hs
  · rename_i id o1 o2 rest hb hr
    split at hs
    · rename_i r y r' e1 e2 e3 e4
      split at hs
      · rename_i hcond
        simp only [Bool.and_eq_true, decide_eq_true_eq, beq_iff_eq] at hcond
        obtain ⟨⟨⟨⟨hrec, rfl⟩, hl⟩, hr1⟩, hy1⟩ := hcond
        obtain ⟨g1, g2⟩ := isRec_eq hrec
        refine ⟨fn, id, o1, o2, rest, x.keep, x.tk, r, y, h1, h2, by rw [h3, hb], ⟨e1, g1, g2⟩, ⟨e2, e3, e4⟩, ?_, by rw [h4]; exact hl, by rw [h4]; exact hr1, ⟨by rw [h4]; exact hy1, by rw [hb] at h6; simp only [noRangeC, Bool.and_eq_true] at h6; exact h6.2⟩, ?_⟩
        · apply Array.toList_inj.1
          rw [h5, hr]
        · rw [h4]
          split at hs
          case isFalse => cases hs
          rename_i hlen
          have hkp := (keep_len x.keep _).2 (Nat.eq_of_beq_eq_true hlen)
          split at hs
          · rename_i e0 h1' ho
            simp only [Option.some.injEq] at hs
            subst hs
            exact (codeX_sound hc hC k rest _ _ _ _ _ ho hkp).1 _ hk
          · rename_i e0 h1' ho
            simp only [Option.some.injEq] at hs
            subst hs
            exact (codeX_sound hc hC k rest _ _ _ _ _ ho hkp).1 _ hk
          · cases hs
      · cases hs
    · cases hs
  · cases hs
/-- What a call comes to. -/
theorem callX_sound (hp : PMono prim) (ht : TabOK P tab) (hpr : CallOK (ACall P ty prim) pr) : ∀ k, CallOK (ACall P ty prim) (callX ty tab pr k)
  | 0, f, args, h, r, h', hs, Q, hq => by cases hs
  | k + 1, f, args, h, r, h', hs, Q, hq => by
    have hc := callX_sound hp ht hpr k
    have hC := acall_mono (P := P) (ty := ty) hp
    unfold callX at hs
    simp only [forceEV_eq] at hs
    split at hs
    · rename_i r' hr
      simp only [Option.some.injEq] at hs
      subst hs
      exact hpr _ _ _ _ _ hr Q hq
    · split at hs
      · cases hs
      · rename_i x hx
        obtain ⟨fn, h1, h2, h3, h4, h5, h6⟩ := ht f x hx
        split at hs
        case isFalse => cases hs
        rename_i hl
        split at hs
        · rename_i e h1' ho
          obtain ⟨trunc, hret⟩ := retX_ret hs hq
          exact acallD hp h1 h3 h2 h4 h5 x.keep x.tk trunc hl (codeDX_sound hc hC k _ _ _ _ _ _ _ ho (init_kept _ _) _ _ (hret _ (.inl rfl))) h6
        · rename_i e h1' ho
          obtain ⟨trunc, hret⟩ := retX_ret hs hq
          exact acallD hp h1 h3 h2 h4 h5 x.keep x.tk trunc hl (codeDX_sound hc hC k _ _ _ _ _ _ _ ho (init_kept _ _) _ _ (hret _ (.inr rfl))) h6
        · rename_i v e h1' ho
          simp only [Option.some.injEq, Prod.mk.injEq] at hs
          obtain ⟨rfl, rfl⟩ := hs
          exact acallD hp h1 h3 h2 h4 h5 x.keep x.tk false hl (codeDX_sound hc hC k _ _ _ _ _ _ _ ho (init_kept _ _) _ _ (by simp only [retQ, Bool.false_eq_true, if_false]; exact hq)) h6
        · rename_i j cap ex e h1' ho
          split at hs
          · rename_i pv hpv
            split at hs
            · rename_i h2' hcl
              obtain ⟨trunc, hret⟩ := retX_ret hs hq
              refine acallD hp h1 h3 h2 h4 h5 x.keep x.tk trunc hl (codeDX_sound hc hC k _ _ _ _ _ _ _ ho (init_kept _ _) _ _ ?_) h6
              have := closeX_sound hc hC ht hcl (K := retQ ty x.results trunc h Q .ret e) (hret _ (.inr rfl))
              cases ex <;> simp only [pvX, Option.some.injEq, reduceCtorEq] at hpv
              all_goals (subst hpv; exact this)
            · cases hs
          · cases hs
        · cases hs
end
end
end Go.Proofs.Ytpbnnbjkjaajnaa.Pv
