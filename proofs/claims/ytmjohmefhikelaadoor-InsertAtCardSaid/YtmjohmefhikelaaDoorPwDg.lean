/- A region that draws its order, walked in each of its orders. -/
import Derived.Test.YtmjohmefhikelaaDoorPwDf
set_option linter.unusedVariables false
set_option linter.unusedSimpArgs false
namespace Go.Proofs.YtmjohmefhikelaaDoor.Pv
open Go

section
variable {ty : Nat → Ty} {C : CallP} {n : Nat} {keep tk : List Nat}
theorem res_each2 {r : R1} {env : Env} {h : H} {f : Value → Res} (he : r.res env h = .each f) : False := by cases r <;> simp [R1.res] at he
theorem store_each2 {t : Nat} {p x : V} {env : Env} {h : H} {f : Value → Res} (he : store ty t p x env h = .each f) : False := by
  unfold store at he; repeat' split at he
  all_goals cases he
theorem builtin_each2 {b : Builtin} {ts : List Nat} {xs : List Operand} {env : Env} {h : H} {f : Value → Res} (he : builtin ty b ts xs env h = .each f) : False := by
  unfold builtin at he; repeat' split at he
  all_goals first | cases he | exact res_each2 he
/-- Is its outcome no call? -/
theorem aop_plain {o : Oper} {env : Env} {h : H} (hp : plainOp o = true) : (∀ f args, aop ty tk o env h ≠ .call f args) ∧ (∀ g, aop ty tk o env h = .each g → ∀ u f args, g u ≠ .call f args ∧ ∀ g', g u ≠ .each g') := by
  constructor
  · intro f args he
    unfold aop at he
    split at he
    case h_14 => exact (R1.res_call (sliceNil_res ty he (by simp)).2).elim
    case h_29 fo as ts ho => rw [plainOp, ho] at hp; cases hp
    all_goals (revert he; repeat' split)
    all_goals (intro ha; first | cases ha | exact R1.res_call ha | exact load_call ha | exact store_call ha | exact builtin_call ha | exact rowApp_call _ ha | exact update_call _ ha | exact rangeOp_call _ ha | exact nextOp_call ha | exact nextM_call ha | exact entryOp_call ha | exact sliceOp_call _ ha)
  · intro g he u f args
    unfold aop at he
    split at he
    case h_10 t x ho =>
      unfold load at he
      split at he
      · cases he
      · split at he
        · split at he
          · cases he
          · split at he
            · cases he
            · split at he
              · cases he
              · unfold loadN at he
                split at he
                · injection he with he; subst he; exact ⟨by simp, by simp⟩
                · cases he
        · cases he
      · cases he
    case h_14 op t x y t' ho =>
      cases hsn : sliceNil ty op t (isC x || isC y) (ev ty env t x) (ev ty env t' y) env h with
      | none =>
        rw [hsn] at he
        exfalso
        revert he
        generalize binOpT ty op t _ _ _ = q
        intro he
        cases q <;> cases he
      | some r =>
        obtain ⟨_, _, _, _, _, _, _, hr⟩ := sliceNil_each ty hsn
        rw [hsn, hr] at he
        injection he with he
        subst he
        exact ⟨by simp, by simp⟩
    case h_37 x ho =>
      unfold nextM at he
      repeat' split at he
      all_goals first
        | (cases he; done)
        | (simp only [Res.each.injEq] at he; subst he; exact ⟨by simp, by simp⟩)
    all_goals exfalso
    all_goals (revert he; repeat' split)
    all_goals (intro ha; first
      | exact res_each2 ha
      | (cases ha; done)
      | exact store_each2 ha
      | exact builtin_each2 ha
      | exact rowApp_each _ ha
      | exact update_each _ ha | exact rangeOp_each _ ha | exact nextOp_each ha | exact entryOp_each ha | exact sliceOp_each _ ha)
theorem runOp_all {o : Oper} {env : Env} {h : H} {X : V → Env → H → Prop} {ι : Type} {L : List ι} {K : ι → Env → H → Prop} (hne : L ≠ []) (hp : plainOp o = true) (want : Option Bool) (hall : ∀ l ∈ L, runOp ty C n tk want o env h (K l) X) : runOp ty C n tk want o env h (fun e h => ∀ l ∈ L, K l e h) X := by
  obtain ⟨l0, r0, rfl⟩ := List.exists_cons_of_ne_nil hne
  have h0 := hall l0 List.mem_cons_self
  cases want with
  | none => exact h0
  | some b =>
    cases b with
    | false => exact ⟨h0.1, fun l hl => (hall l hl).2⟩
    | true => exact upon_all hne _ (aop_plain hp).1 (aop_plain hp).2 hall
theorem runOp_imp {o : Oper} {env : Env} {h : H} {X : V → Env → H → Prop} {K K' : Env → H → Prop} (hp : plainOp o = true) (want : Option Bool) (hk : ∀ e h, K e h → K' e h) (hr : runOp ty C n tk want o env h K X) : runOp ty C n tk want o env h K' X := by
  cases want with
  | none => exact hr
  | some b =>
    cases b with
    | false => exact ⟨hr.1, hk _ _ hr.2⟩
    | true =>
      have h1 := (aop_plain (ty := ty) (tk := tk) (o := o) (env := env) (h := h) hp)
      change (aop ty tk o env h).upon C n o env h K' X
      change (aop ty tk o env h).upon C n o env h K X at hr
      generalize aop ty tk o env h = q at h1 hr ⊢
      cases q with
      | val p v e' h' => exact ⟨hr.1, hr.2.1, hk _ _ hr.2.2⟩
      | call f args => exact absurd rfl (h1.1 f args)
      | pan v => exact hr
      | bad => exact hr
      | each g =>
        intro u
        have h2 := h1.2 g rfl u
        have h3 := hr u
        cases hg : g u with
        | val p v e' h' => simp only [hg] at h3 ⊢; exact ⟨h3.1, h3.2.1, hk _ _ h3.2.2⟩
        | call f args => exact absurd hg (h2 f args).1
        | pan v => simp only [hg] at h3 ⊢; exact h3
        | bad => simp only [hg] at h3 ⊢; exact h3
        | each g' => exact absurd hg ((h2 0 []).2 g')
theorem evalAny_orders {ops : List Oper} {Kc : Env → H → Prop} {X : V → Env → H → Prop} (hpl : ops.all plainOp = true) : ∀ (f : Nat) (listed : Array Bool) (env : Env) (h : H), extsOk ops.toArray f listed = true →
    (∀ l ∈ exts ops.toArray f listed, evalOps ty C n tk ops (l.map fun i => ops.getD i default) Kc X env h) → evalAny ty C n tk ops Kc X f listed env h
  | 0, listed, env, h, hok, hall => by
    refine ⟨by simpa [extsOk] using hok, ?_⟩
    exact hall [] (by simp [exts])
  | f + 1, listed, env, h, hok, hall => by
    unfold extsOk at hok
    rw [List.all_eq_true] at hok
    refine ⟨fun he => ?_, fun i hi => ?_⟩
    · refine hall [] ?_
      unfold exts
      rw [he]
      simp
    · have hoki := hok i hi
      simp only [Bool.and_eq_true, decide_eq_true_eq, List.size_toArray] at hoki
      obtain ⟨hlt, hok'⟩ := hoki
      refine ⟨ops[i], List.getElem?_eq_getElem hlt, ?_⟩
      have hp : plainOp ops[i] = true := List.all_eq_true.1 hpl _ (List.getElem_mem hlt)
      have hex : ∀ l ∈ exts ops.toArray f (listed.setIfInBounds i true), runOp ty C n tk (wanted ops ops[i] env) ops[i] env h (evalOps ty C n tk ops (l.map fun i => ops.getD i default) Kc X) X := by
        intro l hl
        have := hall (i :: l) (by
          unfold exts
          split
          · rename_i hr; rw [hr] at hi; cases hi
          · exact List.mem_flatMap.2 ⟨i, hi, List.mem_map.2 ⟨l, hl, rfl⟩⟩)
        have e : ops.getD i default = ops[i] := by simp [List.getD, hlt]
        simp only [List.map_cons, e] at this
        exact this
      refine runOp_imp hp _ (fun e h' hk => ?_) (runOp_all (exts_ne ops.toArray f _) hp _ hex)
      exact evalAny_orders hpl f _ e h' hok' hk
/-- The region, order by order. -/
theorem wp_drawAll {id : Nat} {l : List Oper} {Q : PostX} {env : Env} {h : H} {os : List (List Nat)} (hpl : l.all plainOp = true) (hok : extsOk l.toArray l.length (Array.replicate l.length false) = true) (he : exts l.toArray l.length (Array.replicate l.length false) = os)
    (hall : ∀ q ∈ os, evalOps ty C n tk l (q.map fun i => l.getD i default) (regQ keep Q) (panQ Q) env h) : wp ty C n keep tk (.region id ⟨l⟩ true) Q env h := by
  simp only [wp, if_true]
  refine .inl ?_
  subst he
  exact evalAny_orders hpl _ _ _ _ hok hall
theorem evalOps_K {ops : List Oper} {K K' : Env → H → Prop} {X X' : V → Env → H → Prop} (hk : ∀ e h, K e h → K' e h) (hx : ∀ v e h, X v e h → X' v e h) : ∀ (l : List Oper) (env : Env) (h : H), (l.all plainOp = true) → evalOps ty C n tk ops l K X env h → evalOps ty C n tk ops l K' X' env h
  | [], env, h, _, hr => hk _ _ hr
  | o :: os, env, h, hp, hr => by
    rw [List.all_cons, Bool.and_eq_true] at hp
    have h1 : runOp ty C n tk (wanted ops o env) o env h (evalOps ty C n tk ops os K X) X := hr
    have h2 := runOp_imp hp.1 _ (fun e h hk' => evalOps_K hk hx os e h hp.2 hk') h1
    show runOp ty C n tk (wanted ops o env) o env h (evalOps ty C n tk ops os K' X') X'
    revert h2
    generalize wanted ops o env = want
    intro h2
    cases want with
    | none => exact h2
    | some b =>
      cases b with
      | false => exact h2
      | true =>
        change (aop ty tk o env h).upon C n o env h _ X at h2
        change (aop ty tk o env h).upon C n o env h _ X'
        have h3 := (aop_plain (ty := ty) (tk := tk) (o := o) (env := env) (h := h) hp.1)
        generalize aop ty tk o env h = q at h2 h3 ⊢
        cases q with
        | val p v e' h' => exact h2
        | call f args => exact absurd rfl (h3.1 f args)
        | pan v => exact hx _ _ _ h2
        | bad => exact h2
        | each g =>
          intro u
          have h4 := h2 u
          have h5 := h3.2 g rfl u
          cases hg : g u with
          | val p v e' h' => simp only [hg] at h4 ⊢; exact h4
          | call f args => exact absurd hg (h5 f args).1
          | pan v => simp only [hg] at h4 ⊢; exact hx _ _ _ h4
          | bad => simp only [hg] at h4 ⊢; exact h4
          | each g' => exact absurd hg ((h5 0 []).2 g')
/-- .. where all orders come to one state. -/
theorem wp_drawAll_at {id : Nat} {l : List Oper} {Q : PostX} {env : Env} {h : H} {os : List (List Nat)} (E : Env) (G : H) (hpl : l.all plainOp = true) (hok : extsOk l.toArray l.length (Array.replicate l.length false) = true) (he : exts l.toArray l.length (Array.replicate l.length false) = os)
    (hpo : (os.all fun q => (q.map fun i => l.getD i default).all plainOp) = true)
    (hall : ∀ q ∈ os, evalOps ty C n tk l (q.map fun i => l.getD i default) (fun e h => e.keep keep = E ∧ h = G) (fun _ _ _ => False) env h) (hq : Q .normal E G) : wp ty C n keep tk (.region id ⟨l⟩ true) Q env h := by
  refine wp_drawAll hpl hok he fun q hq' => ?_
  refine evalOps_K (fun e h hk => ?_) (fun v e h hx => hx.elim) _ _ _ (List.all_eq_true.1 hpo q hq') (hall q hq')
  obtain ⟨rfl, rfl⟩ := hk
  exact hq
end
end Go.Proofs.YtmjohmefhikelaaDoor.Pv
