/- The pure evaluator, part Q: rules for pure runs. -/
import Derived.Test.YtmjohmefhikelaaDoorPwB
set_option linter.unusedVariables false
set_option linter.unusedSimpArgs false
namespace Go.Proofs.YtmjohmefhikelaaDoor.Pv
open Go

section
variable {ty : Nat → Ty} {C C' : CallP} {n : Nat} {keep tk : List Nat}

abbrev CMono (C C' : CallP) : Prop := ∀ f args h (Q Q' : Out → H → Prop), (∀ r h, Q r h → Q' r h) → C f args h Q → C' f args h Q'

theorem upon_mono (hC : CMono C C') {o : Oper} {env : Env} {h : H} {Kc Kc' : Env → H → Prop} {X X' : V → Env → H → Prop} (hK : ∀ env h, Kc env h → Kc' env h) (hX : ∀ v env h, X v env h → X' v env h) :
    ∀ r : Res, r.upon C n o env h Kc X → r.upon C' n o env h Kc' X'
  | .val p v env' h', hr => ⟨hr.1, hr.2.1, hK _ _ hr.2.2⟩
  | .call f args, hr => by
    refine ⟨hr.1, hC _ _ _ _ _ (fun r h hq => ?_) hr.2⟩
    cases r with
    | ret v => exact hK _ _ hq
    | panic v => exact hX _ _ _ hq
    | steps _ _ => exact hq
  | .pan v, hr => hX _ _ _ hr
  | .each f, hr => fun u => upon_mono hC hK hX (f u) (hr u)
  | .bad, hr => hr
theorem runOp_mono (hC : CMono C C') {o : Oper} {want : Option Bool} {env : Env} {h : H} {Kc Kc' : Env → H → Prop} {X X' : V → Env → H → Prop} (hK : ∀ env h, Kc env h → Kc' env h) (hX : ∀ v env h, X v env h → X' v env h)
    (hr : runOp ty C n tk want o env h Kc X) : runOp ty C' n tk want o env h Kc' X' := by
  cases want with
  | none => exact hr
  | some w =>
    cases w with
    | false => exact ⟨hr.1, hK _ _ hr.2⟩
    | true =>
      simp only [runOp] at hr ⊢
      cases he : aop ty tk o env h with
      | val p v env' h' => rw [he] at hr; exact ⟨hr.1, hr.2.1, hK _ _ hr.2.2⟩
      | call f args =>
        rw [he] at hr
        refine ⟨hr.1, hC _ _ _ _ _ (fun r h hq => ?_) hr.2⟩
        cases r with
        | ret v => exact hK _ _ hq
        | panic v => exact hX _ _ _ hq
        | steps _ _ => exact hq
      | pan v => rw [he] at hr; exact hX _ _ _ hr
      | each f =>
        rw [he] at hr
        exact fun u => upon_mono hC hK hX (f u) (hr u)
      | bad => rw [he] at hr; exact hr
theorem evalOps_mono (hC : CMono C C') {ops : List Oper} {Kc Kc' : Env → H → Prop} {X X' : V → Env → H → Prop} (hK : ∀ env h, Kc env h → Kc' env h) (hX : ∀ v env h, X v env h → X' v env h) :
    ∀ (l : List Oper) (env : Env) (h : H), evalOps ty C n tk ops l Kc X env h → evalOps ty C' n tk ops l Kc' X' env h
  | [], env, h, hr => hK _ _ hr
  | o :: os, env, h, hr => runOp_mono hC (fun env h hk => evalOps_mono hC hK hX os env h hk) hX hr
theorem evalAny_mono (hC : CMono C C') {ops : List Oper} {Kc Kc' : Env → H → Prop} {X X' : V → Env → H → Prop} (hK : ∀ env h, Kc env h → Kc' env h) (hX : ∀ v env h, X v env h → X' v env h) :
    ∀ (k : Nat) (listed : Array Bool) (env : Env) (h : H), evalAny ty C n tk ops Kc X k listed env h → evalAny ty C' n tk ops Kc' X' k listed env h
  | 0, listed, env, h, hr => ⟨hr.1, hK _ _ hr.2⟩
  | k + 1, listed, env, h, hr => ⟨fun he => hK _ _ (hr.1 he), fun i hi => by
    obtain ⟨o, ho, h2⟩ := hr.2 i hi
    exact ⟨o, ho, runOp_mono hC (fun env h hk => evalAny_mono hC hK hX k _ env h hk) hX h2⟩⟩

theorem thenQ_mono {nx nx' : Env → H → Prop} {Q Q' : PostX} (h1 : ∀ env h, nx env h → nx' env h) (h2 : ∀ e env h, Q e env h → Q' e env h) (e : Ex) (env : Env) (h : H) (hq : thenQ nx Q e env h) : thenQ nx' Q' e env h := by
  cases e <;> first | exact h1 _ _ hq | exact h2 _ _ _ hq
theorem Wk.mono {he : H} {K K' : Env → H → Prop} {env : Env} {h : H} (hk : Wk he K env h) (h1 : ∀ env h, K env h → K' env h) : Wk he K' env h := by
  obtain ⟨e, h', hw, hk⟩ := hk
  exact ⟨e, h', hw, h1 _ _ hk⟩
theorem wkQ_mono {he : H} {Q Q' : PostX} (h2 : ∀ e env h, Q e env h → Q' e env h) (e : Ex) (env : Env) (h : H) (hq : wkQ he Q e env h) : wkQ he Q' e env h := by
  cases e <;> first | exact hq.mono fun _ _ hk => h2 _ _ _ hk | exact h2 _ _ _ hq
theorem blockQ_mono {he : H} {id : Nat} {Q Q' : PostX} (h2 : ∀ e env h, Q e env h → Q' e env h) (e : Ex) (env : Env) (h : H) (hq : blockQ he id Q e env h) : blockQ he id Q' e env h := by
  cases e <;> simp only [blockQ] at hq ⊢
  case normal => exact hq.mono fun _ _ hk => h2 _ _ _ hk
  case exit j =>
    split at hq <;> rename_i hc <;> simp only [hc, if_true, if_false]
    · exact hq.mono fun _ _ hk => h2 _ _ _ hk
    · exact h2 _ _ _ hq
  all_goals exact h2 _ _ _ hq
theorem scopeQ_mono {he : H} {b : Code} {J J' : Nat → Env → H → Prop} {Q Q' : PostX} (h1 : ∀ l env h, J l env h → J' l env h) (h2 : ∀ e env h, Q e env h → Q' e env h) (e : Ex) (env : Env) (h : H) (hq : scopeQ he b J Q e env h) : scopeQ he b J' Q' e env h := by
  cases e with
  | goto l =>
    simp only [scopeQ] at hq ⊢
    by_cases hc : (findLabel b l).isSome = true
    · rw [if_pos hc] at hq ⊢; exact hq.mono fun _ _ hk => h1 _ _ _ hk
    · rw [if_neg hc] at hq ⊢; exact h2 _ _ _ hq
  | _ => exact h2 _ _ _ hq

theorem evalDraw_mono (hC : CMono C C') {ops : List Oper} {Kc Kc' : Env → H → Prop} {X X' : V → Env → H → Prop} (hK : ∀ env h, Kc env h → Kc' env h) (hX : ∀ v env h, X v env h → X' v env h) {env : Env} {h : H} (hr : evalDraw ty C n tk ops Kc X env h) : evalDraw ty C' n tk ops Kc' X' env h := by
  rcases hr with hr | ⟨p, ks, h1, h2, h3⟩
  · exact .inl (evalAny_mono hC hK hX _ _ _ _ hr)
  · exact .inr ⟨p, ks, h1, h2, evalAny_mono hC (fun e h hk => evalAny_mono hC hK hX _ _ _ _ hk) hX _ _ _ _ h3⟩
theorem roundsQ_mono {A A' B B' : PostX → Env → H → Prop} (hA : ∀ (Q Q' : PostX) (env : Env) (h : H), (∀ e env h, Q e env h → Q' e env h) → A Q env h → A' Q' env h) (hB : ∀ (Q Q' : PostX) (env : Env) (h : H), (∀ e env h, Q e env h → Q' e env h) → B Q env h → B' Q' env h)
    {own ps : List Nat} {env : Env} {done done' : H → Prop} {stop stop' : Ex → H → Prop} (hd : ∀ h, done h → done' h) (hs : ∀ e h, stop e h → stop' e h) : ∀ (ss : List Step) (h : H), roundsQ A B own ps env done stop ss h → roundsQ A' B' own ps env done' stop' ss h
  | [], h, hr => hd h hr
  | s :: ss, h, hr => ⟨hr.1, hA _ _ _ _ (thenQ_mono (fun env' h' hk => hB _ _ _ _ (fun e env h hq => by
      cases e
      case normal => exact Wk.mono hq fun _ h hk => ⟨hk.1, roundsQ_mono hA hB hd hs ss h hk.2⟩
      case panic v => exact hq
      all_goals exact hs _ _ hq) hk) fun _ _ _ hq => hq) hr.2⟩
mutual
theorem wp_monoC (hC : CMono C C') : ∀ (c : Code) (Q Q' : PostX) (env : Env) (h : H), (∀ e env h, Q e env h → Q' e env h) → wp ty C n keep tk c Q env h → wp ty C' n keep tk c Q' env h
  | .skip, Q, Q', env, h, hQ, hr => by simp only [wp] at hr ⊢; exact hQ _ _ _ hr
  | .label _, Q, Q', env, h, hQ, hr => by simp only [wp] at hr ⊢; exact hr.mono fun _ _ hk => hQ _ _ _ hk
  | .region _ ops draw, Q, Q', env, h, hQ, hr => by
    simp only [wp] at hr ⊢
    split
    · rename_i hd; rw [if_pos hd] at hr
      exact evalDraw_mono hC (fun env h hk => hQ _ _ _ hk) (fun v env h hk => hQ _ _ _ hk) hr
    · rename_i hd; rw [if_neg hd] at hr
      cases hin : inPl ops.toList with
      | none =>
        rw [hin] at hr
        exact evalOps_mono hC (fun env h hk => hQ _ _ _ hk) (fun v env h hk => hQ _ _ _ hk) _ _ _ hr
      | some q =>
        rw [hin] at hr
        obtain ⟨o, e, l, h1, h2, h3, h4, h5, h6⟩ := hr
        exact ⟨o, e, l, h1, h2, h3, h4, h5, hQ _ _ _ h6⟩
  | .seq a b, Q, Q', env, h, hQ, hr => by
    simp only [wp] at hr ⊢
    exact wp_monoC hC a _ _ env h (thenQ_mono (fun env h hk => wp_monoC hC b _ _ env h hQ hk) hQ) hr
  | .cond c a b, Q, Q', env, h, hQ, hr => by
    simp only [wp] at hr ⊢
    split
    · rename_i t ht
      rw [ht] at hr
      simp only [] at hr
      split
      · rename_i hc; rw [if_pos hc] at hr; exact wp_monoC hC a _ _ env h (wkQ_mono hQ) hr
      · rename_i hc; rw [if_neg hc] at hr; exact wp_monoC hC b _ _ env h (wkQ_mono hQ) hr
    · rename_i hne
      split at hr
      · rename_i t ht; exact absurd ht (hne t)
      · exact hr
  | .block id b, Q, Q', env, h, hQ, hr => by
    simp only [wp] at hr ⊢
    exact wp_monoC hC b _ _ env h (blockQ_mono hQ) hr
  | .loop b, Q, Q', env, h, hQ, hr => by
    simp only [wp] at hr ⊢
    exact fun I hI => hr I fun env' h' hb => hI env' h' (wp_monoC hC b _ _ env' h' (thenQ_mono (fun _ _ hk => hk) hQ) hb)
  | .exit id, Q, Q', env, h, hQ, hr => by simp only [wp] at hr ⊢; exact hQ _ _ _ hr
  | .goto l, Q, Q', env, h, hQ, hr => by simp only [wp] at hr ⊢; exact hQ _ _ _ hr
  | .ret, Q, Q', env, h, hQ, hr => by simp only [wp] at hr ⊢; exact hQ _ _ _ hr
  | .scope b, Q, Q', env, h, hQ, hr => by
    simp only [wp] at hr ⊢
    intro J hJ
    exact wp_monoC hC b _ _ env h (scopeQ_mono (fun _ _ _ hk => hk) hQ) (hr J fun l env' h' hb => hJ l env' h' (wpAt_monoC hC b l _ _ env' h' (scopeQ_mono (fun _ _ _ hk => hk) hQ) hb))
  | .rangeFunc _ _ a b, Q, Q', env, h, hQ, hr => by
    simp only [wp] at hr ⊢
    refine hr.mono fun env h hr => ?_
    obtain ⟨f, caps, h1, h2, hr⟩ := hr
    refine ⟨f, caps, h1, h2, hC _ _ _ _ _ (fun o h' hq => ?_) hr⟩
    obtain ⟨own, ss, h3, h4, hq⟩ := hq
    exact ⟨own, ss, h3, h4, roundsQ_mono (fun Q Q' env h hQ hr => wp_monoC hC a Q Q' env h hQ hr) (fun Q Q' env h hQ hr => wp_monoC hC b Q Q' env h hQ hr) (fun h hq => hQ _ _ _ hq) (fun e h hq => hQ _ _ _ hq) ss h hq⟩
  | .refuse _, Q, Q', env, h, hQ, hr => by simp only [wp] at hr
theorem wpAt_monoC (hC : CMono C C') : ∀ (c : Code) (l : Nat) (Q Q' : PostX) (env : Env) (h : H), (∀ e env h, Q e env h → Q' e env h) → wpAt ty C n keep tk c l Q env h → wpAt ty C' n keep tk c l Q' env h
  | .seq a b, l, Q, Q', env, h, hQ, hr => by
    simp only [wpAt] at hr ⊢
    split
    · rename_i hl; rw [if_pos hl] at hr
      exact wpAt_monoC hC a l _ _ env h (thenQ_mono (fun env h hk => wp_monoC hC b _ _ env h hQ hk) hQ) hr
    · rename_i hl; rw [if_neg hl] at hr
      exact wpAt_monoC hC b l _ _ env h hQ hr
  | .label l', l, Q, Q', env, h, hQ, hr => by simp only [wpAt] at hr ⊢; exact ⟨hr.1, hQ _ _ _ hr.2⟩
  | .skip, _, _, _, _, _, _, hr | .region _ _ _, _, _, _, _, _, _, hr | .cond _ _ _, _, _, _, _, _, _, hr | .block _ _, _, _, _, _, _, _, hr | .loop _, _, _, _, _, _, _, hr
  | .rangeFunc _ _ _ _, _, _, _, _, _, _, hr | .exit _, _, _, _, _, _, _, hr | .scope _, _, _, _, _, _, _, hr | .goto _, _, _, _, _, _, _, hr | .ret, _, _, _, _, _, _, hr
  | .refuse _, _, _, _, _, _, _, hr => by simp [wpAt] at hr
end

/-! ### The rules, as equations -/
section
variable {env : Env} {h : H} {Q : PostX} {Kc : Env → H → Prop} {X : V → Env → H → Prop} {ops os : List Oper} {o : Oper}
theorem wp_skip : wp ty C n keep tk .skip Q env h = Q .normal env h := by simp only [wp]
theorem wp_label {l : Nat} : wp ty C n keep tk (.label l) Q env h = Wk h (Q .normal) env h := by simp only [wp]
theorem wp_seq {a b : Code} : wp ty C n keep tk (.seq a b) Q env h = wp ty C n keep tk a (thenQ (wp ty C n keep tk b Q) Q) env h := by simp only [wp]
theorem wp_block {id : Nat} {b : Code} : wp ty C n keep tk (.block id b) Q env h = wp ty C n keep tk b (blockQ h id Q) env h := by simp only [wp]
theorem wp_region {id : Nat} {l : List Oper} (hin : inPl l = none) : wp ty C n keep tk (.region id ⟨l⟩ false) Q env h = evalOps ty C n tk l l (regQ keep Q) (panQ Q) env h := by simp only [wp, Bool.false_eq_true, if_false, hin]
theorem wp_region_i {id : Nat} {l : List Oper} (hin : inPl l = none) (hw : evalOps ty C n tk l l (regQ keep Q) (panQ Q) env h) : wp ty C n keep tk (.region id ⟨l⟩ false) Q env h := by rw [wp_region hin]; exact hw
theorem wp_sort {id i j : Nat} {d : Option Nat} {f : FuncId} {ops : List Oper} {o : Option Value} {e : Nat} {l : List (List UInt8)} (hin : inPl ops = some (i, j, d, f)) (he : env.get i = .pri o e 1 (List.map V.str l)) (hl : List.length l < 4611686018427387904) (hi : i < n) (hj : j < n) (hd : dstOk n d)
    (hq : Q .normal ((putD d ((env.put i (.own e 1 (List.map V.str (sortT l)))).put j .top) .top).keep keep) h) : wp ty C n keep tk (.region id ⟨ops⟩ false) Q env h := by
  simp only [wp, Bool.false_eq_true, if_false, hin]
  exact ⟨o, e, l, he, hl, hi, hj, hd, hq⟩
theorem range_in {fo : Operand} {ps : Array Tmp} {a b : Code} (hk : Wk h (RangeQ ty C n keep tk fo ps a b Q) env h) : wp ty C n keep tk (.rangeFunc fo ps a b) Q env h := by simp only [wp]; exact hk
theorem range_go {fo : Operand} {ps : List Tmp} {a b : Code} (f : FuncId) (caps : List V) (hev : ev ty env 0 fo = .func (.func f) [] caps) (hok : (noDefC a && noDefC b && ps.all fun p => Nat.blt p n) = true)
    (hc : C (1000000 + f) caps h fun o h' => ∃ own ss, o = .steps own ss ∧ h' = h ∧ roundsQ (wp ty C n keep tk a) (wp ty C n keep tk b) own ps env (Q .normal env) (fun e => Q e env) ss h) : RangeQ ty C n keep tk fo ⟨ps⟩ a b Q env h := ⟨f, caps, hev, hok, hc⟩
section
variable {A B : PostX → Env → H → Prop} {own ps : List Nat} {done : H → Prop} {stop : Ex → H → Prop} {K : H → Prop} {he : H}
theorem rounds_nil : roundsQ A B own ps env done stop [] h = done h := rfl
theorem rounds_cons {s : Step} {ss : List Step} : roundsQ A B own ps env done stop (s :: ss) h = (s.2.length = ps.length ∧ A (thenQ (B (roundK (updH s.1 h) own (roundsQ A B own ps env done stop ss) stop)) noX) (putAll ps s.2 (demEnv env)) (updH s.1 h)) := rfl
theorem roundK_n : roundK he own K stop .normal env h = Wk he (fun _ h' => (∀ i ∈ own, h'[i]? = he[i]?) ∧ K h') env h := rfl
theorem roundK_x {id : Nat} : roundK he own K stop (.exit id) env h = stop (.exit id) h := rfl
theorem roundK_g {l : Nat} : roundK he own K stop (.goto l) env h = stop (.goto l) h := rfl
theorem roundK_r : roundK he own K stop .ret env h = stop .ret h := rfl
/-- Rounds over what is known as a list. -/
theorem rounds_gen {α σ : Type} (U : α → List (Nat × AObj)) (W : α → List V) (G : σ → H) (P : List α → σ → Prop)
    (step : ∀ x xs s, P (x :: xs) s → ∀ N : H → Prop, (∀ s', P xs s' → N (G s')) → (W x).length = ps.length ∧ A (thenQ (B (roundK (updH (U x) (G s)) own N stop)) noX) (putAll ps (W x) (demEnv env)) (updH (U x) (G s)))
    (fin : ∀ s, P [] s → done (G s)) : ∀ xs s, P xs s → roundsQ A B own ps env done stop (xs.map fun x => (U x, W x)) (G s)
  | [], s, h => fin s h
  | x :: xs, s, h => step x xs s h _ fun s' hs' => rounds_gen U W G P step fin xs s' hs'
/-- A round's normal end. -/
theorem round_end {h' : H} {env' : Env} (hk : Wk he (fun _ h => (∀ i ∈ own, h[i]? = he[i]?) ∧ K h) env' h') : roundK he own K stop .normal env' h' := hk
end
theorem wp_exit {id : Nat} : wp ty C n keep tk (.exit id) Q env h = Q (.exit id) env h := by simp only [wp]
theorem wp_goto {l : Nat} : wp ty C n keep tk (.goto l) Q env h = Q (.goto l) env h := by simp only [wp]
theorem wp_ret : wp ty C n keep tk .ret Q env h = Q .ret env h := by simp only [wp]

/-- Which way at a test. -/
def condK (ty : Nat → Ty) (C : CallP) (n : Nat) (keep tk : List Nat) (v : V) (a b : Code) (Q : PostX) (env : Env) (h : H) : Prop :=
  match v with
  | .bool t => if t = true then wp ty C n keep tk a (wkQ h Q) env h else wp ty C n keep tk b (wkQ h Q) env h
  | _ => False
theorem wp_cond {c : Operand} {a b : Code} : wp ty C n keep tk (.cond c a b) Q env h = condK ty C n keep tk (ev ty env 0 c) a b Q env h := by simp only [wp]; rfl
theorem condK_tt {a b : Code} : condK ty C n keep tk (.bool true) a b Q env h = wp ty C n keep tk a (wkQ h Q) env h := rfl
theorem condK_ff {a b : Code} : condK ty C n keep tk (.bool false) a b Q env h = wp ty C n keep tk b (wkQ h Q) env h := rfl

theorem evalOps_nil : evalOps ty C n tk ops [] Kc X env h = Kc env h := rfl
theorem evalOps_cons : evalOps ty C n tk ops (o :: os) Kc X env h = runOp ty C n tk (wanted ops o env) o env h (evalOps ty C n tk ops os Kc X) X := rfl
theorem runOp_tt : runOp ty C n tk (some true) o env h Kc X = (aop ty tk o env h).upon C n o env h Kc X := rfl
theorem runOp_ff : runOp ty C n tk (some false) o env h Kc X = (dstOk n o.dst ∧ Kc (putD o.dst env (.tup [])) h) := rfl
theorem upon_val {p : Prop} {v : V} {env' : Env} {h' : H} : (Res.val p v env' h').upon C n o env h Kc X = (p ∧ dstOk n o.dst ∧ Kc (putD o.dst env' v) h') := rfl
theorem upon_call {f : FuncId} {args : List V} : (Res.call f args).upon C n o env h Kc X = (dstOk n o.dst ∧ C f args h (retK o env Kc X)) := rfl
theorem upon_pan {v : V} : (Res.pan v).upon C n o env h Kc X = X v env h := rfl
theorem retK_ret {v : V} {h' : H} : retK o env Kc X (.ret v) h' = Kc (putD o.dst env v) h' := rfl
theorem retK_pan {v : V} {h' : H} : retK o env Kc X (.panic v) h' = X v env h' := rfl
theorem thenQ_n {nx : Env → H → Prop} : thenQ nx Q .normal env h = nx env h := rfl
theorem thenQ_x {nx : Env → H → Prop} {id : Nat} : thenQ nx Q (.exit id) env h = Q (.exit id) env h := rfl
theorem thenQ_g {nx : Env → H → Prop} {l : Nat} : thenQ nx Q (.goto l) env h = Q (.goto l) env h := rfl
theorem thenQ_r {nx : Env → H → Prop} : thenQ nx Q .ret env h = Q .ret env h := rfl
theorem thenQ_p {nx : Env → H → Prop} {v : V} : thenQ nx Q (.panic v) env h = Q (.panic v) env h := rfl
theorem wkQ_n {he : H} : wkQ he Q .normal env h = Wk he (Q .normal) env h := rfl
theorem wkQ_x {he : H} {id : Nat} : wkQ he Q (.exit id) env h = Q (.exit id) env h := rfl
theorem wkQ_g {he : H} {l : Nat} : wkQ he Q (.goto l) env h = Q (.goto l) env h := rfl
theorem wkQ_r {he : H} : wkQ he Q .ret env h = Q .ret env h := rfl
theorem wkQ_p {he : H} {v : V} : wkQ he Q (.panic v) env h = Q (.panic v) env h := rfl
theorem blockQ_n {he : H} {id : Nat} : blockQ he id Q .normal env h = Wk he (Q .normal) env h := rfl
theorem blockQ_x {he : H} {id id' : Nat} : blockQ he id Q (.exit id') env h = if id' = id then Wk he (Q .normal) env h else Q (.exit id') env h := rfl
theorem blockQ_g {he : H} {id l : Nat} : blockQ he id Q (.goto l) env h = Q (.goto l) env h := rfl
theorem blockQ_r {he : H} {id : Nat} : blockQ he id Q .ret env h = Q .ret env h := rfl
theorem blockQ_p {he : H} {id : Nat} {v : V} : blockQ he id Q (.panic v) env h = Q (.panic v) env h := rfl
theorem regQ_ap : regQ keep Q env h = Q .normal (env.keep keep) h := rfl
theorem panQ_ap {v : V} : panQ Q v env h = Q (.panic v) env h := rfl
end

/-! ### Loops and jumps -/
/-- A loop that began at the heap he. -/
def Loop (ty : Nat → Ty) (C : CallP) (n : Nat) (keep tk : List Nat) (he : H) (b : Code) (Q : PostX) (env : Env) (h : H) : Prop :=
  ∀ I : Env → H → Prop, (∀ env' h', wp ty C n keep tk b (thenQ (Wk he I) Q) env' h' → I env' h') → I env h
theorem wp_loop {b : Code} {Q : PostX} {env : Env} {h : H} : wp ty C n keep tk (.loop b) Q env h = ∀ I : Env → H → Prop, (∀ env' h', wp ty C n keep tk b (thenQ (Wk h I) Q) env' h' → I env' h') → Wk h I env h := by simp only [wp]
theorem loop_in {b : Code} {Q : PostX} {env : Env} {h : H} (hk : Wk h (Loop ty C n keep tk h b Q) env h) : wp ty C n keep tk (.loop b) Q env h := by
  rw [wp_loop]
  exact fun I hI => hk.mono fun env' h' hl => hl I hI
/-- One round. -/
theorem loop_step (hC : CMono C C) {he : H} {b : Code} {Q : PostX} {env : Env} {h : H} (hr : wp ty C n keep tk b (thenQ (Wk he (Loop ty C n keep tk he b Q)) Q) env h) : Loop ty C n keep tk he b Q env h := by
  intro I hI
  refine hI _ _ (wp_monoC hC b _ _ env h (thenQ_mono (fun env' h' hk => hk.mono fun env' h' hk => hk I hI) (fun _ _ _ hq => hq)) hr)

/-- What follows a jump to a label of a scope. -/
def Jump (ty : Nat → Ty) (C : CallP) (n : Nat) (keep tk : List Nat) (he : H) (b : Code) (Q : PostX) (l : Nat) (env : Env) (h : H) : Prop :=
  ∀ J : Nat → Env → H → Prop, (∀ l env' h', wpAt ty C n keep tk b l (scopeQ he b J Q) env' h' → J l env' h') → J l env h
theorem wp_scope (hC : CMono C C) {b : Code} {Q : PostX} {env : Env} {h : H} (hr : wp ty C n keep tk b (scopeQ h b (Jump ty C n keep tk h b Q) Q) env h) : wp ty C n keep tk (.scope b) Q env h := by
  rw [wp]
  intro J hJ
  exact wp_monoC hC b _ _ env h (scopeQ_mono (fun l env' h' hk => hk J hJ) (fun _ _ _ hq => hq)) hr
theorem jump (hC : CMono C C) {he : H} {b : Code} {Q : PostX} {l : Nat} {env : Env} {h : H} (hr : wpAt ty C n keep tk b l (scopeQ he b (Jump ty C n keep tk he b Q) Q) env h) : Jump ty C n keep tk he b Q l env h :=
  fun J hJ => hJ l env h (wpAt_monoC hC b l _ _ env h (scopeQ_mono (fun l env' h' hk => hk J hJ) (fun _ _ _ hq => hq)) hr)
end

/-! ### Calls -/
section
variable {P : Program} {ty : Nat → Ty} {prim : CallP}
/-- The given calls' answers may be told less exactly. -/
abbrev PMono (prim : CallP) : Prop := ∀ f args h (Q Q' : Out → H → Prop), (∀ r h, Q r h → Q' r h) → prim f args h Q → prim f args h Q'

theorem retQ_mono {rs : List ResultVar} {b : Bool} {h0 : H} {Q Q' : Out → H → Prop} (hQ : ∀ r h, Q r h → Q' r h) (e : Ex) (env : Env) (h : H) (hq : retQ ty rs b h0 Q e env h) : retQ ty rs b h0 Q' e env h := by
  have fin : (match results ty rs env h with | some v => ∃ v', V.Le v v' ∧ (if b then leaveQ h0 h v' Q else Q (.ret v') h) | none => False) → (match results ty rs env h with | some v => ∃ v', V.Le v v' ∧ (if b then leaveQ h0 h v' Q' else Q' (.ret v') h) | none => False) := by
    intro hq
    split at hq
    · obtain ⟨v', hl, hq⟩ := hq
      refine ⟨v', hl, ?_⟩
      cases b with
      | true => exact ⟨hq.1, hq.2.1, hq.2.2.1, hQ _ _ hq.2.2.2⟩
      | false => exact hQ _ _ hq
    · exact hq
  unfold retQ at hq ⊢
  cases e <;> simp only [] at hq ⊢
  case panic v =>
    cases b with
    | true => exact ⟨hq.1, hq.2.1, hq.2.2.1, hQ _ _ hq.2.2.2⟩
    | false => exact hQ _ _ hq
  case normal => exact fin hq
  case ret => exact fin hq

theorem close_mono {C C' : CallP} (hC : CMono C C') {k : FuncId} {caps : List V} {pv : V} {h : H} {K K' : H → Prop} (hK : ∀ h, K h → K' h) (hb : closeC P ty C k caps pv h K) : closeC P ty C' k caps pv h K' := by
  obtain ⟨fn, id, o1, o2, rest, keep, tk, r, x, h1, h2, h3, h4, h5, h6, h7, h8, h9, hw⟩ := hb
  refine ⟨fn, id, o1, o2, rest, keep, tk, r, x, h1, h2, h3, h4, h5, h6, h7, h8, h9, wp_monoC hC rest _ _ _ _ (fun e env h hq => ?_) hw⟩
  unfold closeQ at hq ⊢
  cases e <;> first | exact hK _ hq | exact hq
theorem wpD_mono {C C' : CallP} (hC : CMono C C') {n : Nat} {keep tk : List Nat} : ∀ (c : Code) (Q Q' : PostX) (QD QD' : FuncId → List V → PostX) (env : Env) (h : H), (∀ e env h, Q e env h → Q' e env h) → (∀ k cap e env h, QD k cap e env h → QD' k cap e env h) → wpD ty C n keep tk c Q QD env h → wpD ty C' n keep tk c Q' QD' env h
  | .seq x y, Q, Q', QD, QD', env, h, hQ, hD, hr => by
    have rest : wp ty C n keep tk x (thenQ (wpD ty C n keep tk y Q QD) Q) env h → wp ty C' n keep tk x (thenQ (wpD ty C' n keep tk y Q' QD') Q') env h := fun hr =>
      wp_monoC hC x _ _ env h (thenQ_mono (fun env h hk => wpD_mono hC y _ _ _ _ env h hQ hD hk) hQ) hr
    cases x with
    | region id ops draw =>
      cases draw with
      | true => simp only [wpD] at hr ⊢; exact rest hr
      | false =>
        simp only [wpD] at hr ⊢
        cases hl : lastDefer ops.toList with
        | none => rw [hl] at hr; exact rest hr
        | some q =>
          rw [hl] at hr
          refine evalOps_mono hC (fun env h hk => ?_) (fun v env h hk => hQ _ _ _ hk) _ _ _ hr
          obtain ⟨k, cap, he, hw⟩ := hk
          exact ⟨k, cap, he, wp_monoC hC y _ _ _ _ (hD k cap) hw⟩
    | _ => simp only [wpD] at hr ⊢; exact rest hr
  | .skip, Q, Q', QD, QD', env, h, hQ, hD, hr | .label _, Q, Q', QD, QD', env, h, hQ, hD, hr | .region _ _ _, Q, Q', QD, QD', env, h, hQ, hD, hr | .cond _ _ _, Q, Q', QD, QD', env, h, hQ, hD, hr | .block _ _, Q, Q', QD, QD', env, h, hQ, hD, hr
  | .loop _, Q, Q', QD, QD', env, h, hQ, hD, hr | .rangeFunc _ _ _ _, Q, Q', QD, QD', env, h, hQ, hD, hr | .exit _, Q, Q', QD, QD', env, h, hQ, hD, hr | .scope _, Q, Q', QD, QD', env, h, hQ, hD, hr | .goto _, Q, Q', QD, QD', env, h, hQ, hD, hr
  | .ret, Q, Q', QD, QD', env, h, hQ, hD, hr | .refuse _, Q, Q', QD, QD', env, h, hQ, hD, hr => by
    simp only [wpD] at hr ⊢
    exact wp_monoC hC _ _ _ env h hQ hr
theorem bodyD_mono {C C' : CallP} (hC : CMono C C') {f : FuncId} {args : List V} {h : H} {Q Q' : Out → H → Prop} (hQ : ∀ r h, Q r h → Q' r h) (hb : bodyD P ty C f args h Q) : bodyD P ty C' f args h Q' := by
  obtain ⟨fn, c, keep, tk, tr, h1, h2, h3, h4, hw⟩ := hb
  refine ⟨fn, c, keep, tk, tr, h1, h2, h3, h4, wpD_mono hC c _ _ _ _ _ _ (retQ_mono hQ) (fun k cap e env h hq => ?_) hw⟩
  cases e <;> simp only [] at hq ⊢
  case normal => exact close_mono hC (fun h hk => retQ_mono hQ _ _ _ hk) hq
  case ret => exact close_mono hC (fun h hk => retQ_mono hQ _ _ _ hk) hq
  case panic v => exact close_mono hC (fun h hk => retQ_mono hQ _ _ _ hk) hq
theorem body_mono {C C' : CallP} (hC : CMono C C') {f : FuncId} {args : List V} {h : H} {Q Q' : Out → H → Prop} (hQ : ∀ r h, Q r h → Q' r h) (hb : body P ty C f args h Q) : body P ty C' f args h Q' := by
  obtain ⟨fn, c, keep, tk, tr, h1, h2, h3, h4, hw⟩ := hb
  exact ⟨fn, c, keep, tk, tr, h1, h2, h3, h4, wp_monoC hC c _ _ _ _ (retQ_mono hQ) hw⟩

theorem acall_mono (hp : PMono prim) : CMono (ACall P ty prim) (ACall P ty prim) := by
  intro f args h Q Q' hQ hc
  have := hc (fun f args h Q => ∀ Q' : Out → H → Prop, (∀ r h, Q r h → Q' r h) → ACall P ty prim f args h Q') (fun f args h Q hb Q' hQ => ?_) Q' hQ
  · exact this
  · intro C hC
    refine hC f args h Q' ?_
    rcases hb with hb | hb | ⟨args', hl, hb⟩ | ⟨args', v, h1, h2, h3, h4, hb, hq⟩ | hb
    · exact .inl (body_mono (fun f args h Q Q' hQ hc => hc Q' hQ C hC) hQ hb)
    · exact .inr (.inl (hp f args h Q Q' hQ hb))
    · exact .inr (.inr (.inl ⟨args', hl, hb Q' hQ C hC⟩))
    · exact .inr (.inr (.inr (.inl ⟨args', v, h1, h2, h3, h4, hb _ (fun _ _ h => h) C hC, hQ _ _ hq⟩)))
    · exact .inr (.inr (.inr (.inr (bodyD_mono (fun f args h Q Q' hQ hc => hc Q' hQ C hC) hQ hb))))

/-- A call, by its body. -/
theorem acall_body (hp : PMono prim) {f : FuncId} {args : List V} {h : H} {Q : Out → H → Prop} (hb : body P ty (ACall P ty prim) f args h Q) : ACall P ty prim f args h Q :=
  fun C hC => hC f args h Q (.inl (body_mono (fun f args h Q Q' hQ hc => by
    have := acall_mono hp f args h Q Q' hQ hc
    exact this C hC) (fun _ _ h => h) hb))
/-- .. of a function that defers a closure. -/
theorem acall_bodyD (hp : PMono prim) {f : FuncId} {args : List V} {h : H} {Q : Out → H → Prop} (hb : bodyD P ty (ACall P ty prim) f args h Q) : ACall P ty prim f args h Q :=
  fun C hC => hC f args h Q (.inr (.inr (.inr (.inr (bodyD_mono (fun f args h Q Q' hQ hc => by
    have := acall_mono hp f args h Q Q' hQ hc
    exact this C hC) (fun _ _ h => h) hb)))))
theorem acall_prim {f : FuncId} {args : List V} {h : H} {Q : Out → H → Prop} (hb : prim f args h Q) : ACall P ty prim f args h Q := fun C hC => hC f args h Q (.inr (.inl hb))
/-- Arguments may be told less exactly. -/
theorem acall_le {f : FuncId} {args args' : List V} {h : H} {Q : Out → H → Prop} (hl : LLe args args') (hc : ACall P ty prim f args' h Q) : ACall P ty prim f args h Q := fun C hC => hC f args h Q (.inr (.inr (.inl ⟨args', hl, hc C hC⟩)))

/-- A call that is lent rows. -/
theorem acall_lend {f : FuncId} {args args' : List V} {v : V} {h : H} {Q : Out → H → Prop} (hlen : args'.length = args.length) (hl : ∀ (i : Nat) (a a' : V), args[i]? = some a → args'[i]? = some a' → Lent h a a') (hcl : ∀ a ∈ args', V.Cl 0 a) (hf : V.Flat v)
    (hc : ACall P ty prim f args' [] fun r _ => r = .ret v) (hq : Q (.ret v) h) : ACall P ty prim f args h Q := fun C hC => hC f args h Q (.inr (.inr (.inr (.inl ⟨args', v, hlen, hl, hcl, hf, hc C hC, hq⟩))))
/-- The same, with what is known of the function laid out. -/
theorem acall (hp : PMono prim) {f : FuncId} {fn : Func} {c : Code} (hf : P.funcs[f]? = some fn) (hb : fn.body = some c) (hn : (fn.name == "runtime.NumGoroutine") = false) (keep tk : List Nat) (trunc : Bool) {args : List V} {h : H} {Q : Out → H → Prop}
    (hl : args.length ≤ fn.ntmps) (hw : wp ty (ACall P ty prim) fn.ntmps keep tk c (retQ ty fn.results.toList trunc h Q) (initEnv keep (args.map V.demote)) h) : ACall P ty prim f args h Q :=
  acall_body hp ⟨fn, c, keep, tk, trunc, hf, hn, hb, hl, hw⟩
/-- The same, with the slots and the results told. -/
theorem acalln (hp : PMono prim) {f : FuncId} {fn : Func} {c : Code} (hf : P.funcs[f]? = some fn) (hb : fn.body = some c) (hn : (fn.name == "runtime.NumGoroutine") = false) {n : Nat} (hn' : fn.ntmps = n) {rs : List ResultVar} (hrs : fn.results.toList = rs) (keep tk : List Nat) (trunc : Bool) {args : List V} {h : H} {Q : Out → H → Prop}
    (hl : args.length ≤ n) (hw : wp ty (ACall P ty prim) n keep tk c (retQ ty rs trunc h Q) (initEnv keep (args.map V.demote)) h) : ACall P ty prim f args h Q := by
  subst hn'; subst hrs
  exact acall hp hf hb hn keep tk trunc hl hw
end

end Go.Proofs.YtmjohmefhikelaaDoor.Pv
