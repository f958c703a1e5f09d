/- The pure evaluator, part Yi: iterators, told by what they yield: their codes run against a list of what is to come. -/
import Derived.Test.YtmjohmefhikelaaDoorPwP
set_option linter.unusedVariables false
set_option linter.unusedSimpArgs false
namespace Go.Proofs.YtmjohmefhikelaaDoor.Pv
open Go

/-- Where an iterator stands: is more wanted; what is still to come; the heap when it was last handed on. -/
structure YSt where
  live : Bool
  ss : List Step
  hl : H

/-- A call of yield: what it hands on. -/
def yOp (l : Nat) (o : Oper) (env : Env) : Option (List (Operand × Nat)) :=
  match o.op, o.guard with
  | .call { callee := .value (.tmp i), args, argTypes }, none =>
    (match env.get i with
    | .raw (.func (.yield l') ⟨[]⟩ ⟨[]⟩) => if l' = l ∧ args.size = argTypes.size then some (args.toList.zip argTypes.toList) else none
    | _ => none)
  | _, _ => none

section
variable (ty : Nat → Ty) (C : CallP) (n : Nat) (keep tk : List Nat) (l : Nat) (own : List Nat)
def yieldK (o : Oper) (zs : List (Operand × Nat)) (K : YSt → Env → H → Prop) (s : YSt) (env : Env) (h : H) : Prop :=
  dstOk n o.dst ∧ Wk s.hl (fun env' h' => ∃ x xs, s.live = true ∧ s.ss = x :: xs ∧ (zs.map fun (a, t) => ev ty env' t a) = x.2 ∧ h' = updH x.1 s.hl ∧
    (∀ h3, (∀ i ∈ own, h3[i]? = (updH x.1 s.hl)[i]?) → K ⟨true, xs, h3⟩ (putD o.dst env' (.bool true)) h3) ∧ (∀ h3, K ⟨false, [], h3⟩ (putD o.dst env' (.bool false)) h3)) env h
def evalOpsY (ops : List Oper) (K : YSt → Env → H → Prop) : List Oper → YSt → Env → H → Prop
  | [], s => K s
  | o :: os, s => fun env h => match yOp l o env with
    | some zs => yieldK ty n own o zs (evalOpsY ops K os) s env h
    | none => runOp ty C n tk (wanted ops o env) o env h (evalOpsY ops K os s) (fun _ _ _ => False)
/-- A code of an iterator. -/
def wpY : Code → (YSt → PostX) → YSt → Env → H → Prop
  | .skip, Q, s => Q s .normal
  | .region id ops draw, Q, s => fun env h => if draw = true then wp ty C n keep tk (.region id ops true) (fun e env h => match e with | .normal => Q s .normal env h | _ => False) env h else evalOpsY ty C n tk l own ops.toList (fun s env h => Q s .normal (env.keep keep) h) ops.toList s env h
  | .seq a b, Q, s => wpY a (fun s => thenQ (wpY b Q s) (Q s)) s
  | .cond c a b, Q, s => fun env h => match ev ty env 0 c with | .bool t => if t = true then wpY a Q s env h else wpY b Q s env h | _ => False
  | .block id b, Q, s => wpY b (fun s e env h => match e with | .exit id' => if id' = id then Q s .normal env h else Q s (.exit id') env h | e => Q s e env h) s
  | .loop b, Q, s => fun env h => ∀ I : YSt → Env → H → Prop, (∀ s env h, wpY b (fun s => thenQ (Wk s.hl (I s)) (Q s)) s env h → I s env h) → Wk s.hl (I s) env h
  | .exit id, Q, s => Q s (.exit id)
  | .ret, Q, s => Q s .ret
  | _, _, _ => fun _ _ => False
/-- At an iterator's end. -/
def endY (s : YSt) (e : Ex) (env : Env) (h : H) : Prop :=
  match e with
  | .normal | .ret => (s.live = true → s.ss = []) ∧ Wk s.hl (fun _ h' => h' = s.hl) env h
  | _ => False
end

section
variable {P : Program} {ty : Nat → Ty} {n : Nat} {keep tk : List Nat} {l : Nat} {own : List Nat} {D : Nat}
def BaseY (J : List Step → World → Gh → H → Prop) (Jx : World → Gh → H → Prop) (s : YSt) (w1 : World) (g1 : Gh) : Prop :=
  HRel w1 g1 s.hl ∧ (s.live = true → J s.ss w1 g1 s.hl) ∧ (s.live = false → Jx w1 g1 s.hl)
def QYC (D n : Nat) (J : List Step → World → Gh → H → Prop) (Jx : World → Gh → H → Prop) (Q : YSt → PostX) (e : Exit) (a : Act) (w : World) : Prop :=
  ∃ s w1 g1 e' g env h, ExRel w g e' e ∧ Q s e' env h ∧ BaseY J Jx s w1 g1 ∧ St D n w1 g1 a w g env h
/-- What is asked of a call of yield. -/
def YieldOK (P : Program) (D l : Nat) (own : List Nat) (J : List Step → World → Gh → H → Prop) (Jx : World → Gh → H → Prop) : Prop :=
  ∀ (s : Step) (ss' : List Step) (w1 : World) (g1 : Gh) (h1 : H) (w2 : World) (g2 : Gh) (xs : Array Value), J (s :: ss') w1 g1 h1 → Ext D w1 g1 w2 g2 → HRel w2 g2 (updH s.1 h1) → LRel w2 g2.F g2.ι s.2 xs.toList →
    YieldAt Fence.wide 0 P l xs w2 fun e w3 => ∃ g3 h3, HRel w3 g3 h3 ∧ ((e = .returned (.bool true) ∧ Ext (D + 1) w2 g2 w3 g3 ∧ (∀ i ∈ own, h3[i]? = (updH s.1 h1)[i]?) ∧ J ss' w3 g3 h3) ∨
      (e = .returned (.bool false) ∧ (∃ w' o, w3 = withObj w' l o ∧ Ext (D + 1) w2 g2 w' g3 ∧ l ∉ g3.ι ∧ g3.O l = none ∧ g3.F l = 0) ∧ Jx w3 g3 h3))
theorem yOp_spec {o : Oper} {env : Env} {zs : List (Operand × Nat)} (h : yOp l o env = some zs) : ∃ i as ts, o.op = .call { callee := .value (.tmp i), args := as, argTypes := ts } ∧ o.guard = none ∧ env.get i = .raw (.func (.yield l) #[] #[]) ∧ as.size = ts.size ∧ zs = as.toList.zip ts.toList := by
  unfold yOp at h
  split at h
  · rename_i i as ts h1 h2
    split at h
    · rename_i l' h3
      split at h
      · rename_i hc
        obtain ⟨rfl, hsz⟩ := hc
        injection h with h
        exact ⟨i, as, ts, h1, h2, h3, hsz, h.symm⟩
      · cases h
    · cases h
  · cases h
theorem evalOpsY_sound (ht : TyTab P ty) {J : List Step → World → Gh → H → Prop} {Jx : World → Gh → H → Prop} (hY : YieldOK P D l own J Jx) {ops : List Oper} {K : YSt → Env → H → Prop} {Q : Exit → Act → World → Prop} 
    (hK : ∀ s w1 g1 a w g env h, BaseY J Jx s w1 g1 → St D n w1 g1 a w g env h → K s env h → Q .normal a w) :
    ∀ (os : List Oper) (s : YSt) (a : Act) (w1 : World) (g1 : Gh) (w : World) (g : Gh) (env : Env) (h : H), BaseY J Jx s w1 g1 → St D n w1 g1 a w g env h → evalOpsY ty (Sound P) n tk l own ops K os s env h → wpListIn (FR none) 0 P ops.toArray Q os a w
  | [], s, a, w1, g1, w, g, env, h, hb, hs, hr => hK s w1 g1 a w g env h hb hs hr
  | o :: os, s, a, w1, g1, w, g, env, h, hb, hs, hr => by
    unfold wpListIn
    unfold evalOpsY at hr
    cases hy : yOp l o env with
    | none =>
      rw [hy] at hr
      have := runOp_sound ht (Q := Q) (next := wpListIn (FR none) 0 P ops.toArray Q os) (w0 := w1) (g0 := g1) (fun a w g env h hs hk => evalOpsY_sound ht hY hK os s a w1 g1 w g env h hb hs hk) (fun a w g env h v u hs hk hv => hk.elim) hs hr
      split
      · rename_i hw; rw [if_pos hw] at this; exact opIn_of_op (.inl rfl) this
      · rename_i hw; rw [if_neg hw] at this; exact ⟨fun _ _ => trivial, this⟩
    | some zs =>
      rw [hy] at hr
      obtain ⟨i, as, ts, ho, hg, hi, hsz, rfl⟩ := yOp_spec hy
      rw [if_pos (by simp [Region.wanted, hg])]
      obtain ⟨hd, hk⟩ := hr
      have hu : a.tmps.getD i undef = .func (.yield l) #[] #[] := by
        have := (hs.f.slot i).demote
        rw [hi] at this
        simp only [V.demote] at this
        generalize a.tmps.getD i undef = u at this
        cases this
        rfl
      obtain ⟨g', env', h', hs', x, xs, hlv, hss, hargs, rfl, hkt, hkf⟩ := hs.wk hb.1 hk
      have hJ := hb.2.1 hlv
      rw [hss] at hJ
      have hrel : LRel w g'.F g'.ι x.2 (as.map a.eval).toList := by
        rw [← hargs]
        refine ⟨by simp [List.length_zip]; omega, fun k c u hc hu => ?_⟩
        rw [Array.toList_map] at hu
        rw [List.getElem?_map] at hc hu
        obtain ⟨⟨x, t⟩, hxt, rfl⟩ := Option.map_eq_some_iff.1 hc
        obtain ⟨y, hy, rfl⟩ := Option.map_eq_some_iff.1 hu
        have hx2 : as.toList[k]? = some x := by
          rw [List.getElem?_zip_eq_some] at hxt
          exact hxt.1
        rw [hy] at hx2
        injection hx2 with hx2
        subst hx2
        exact ev_rel hs'.f _ _
      obtain ⟨fn, tmps, assign, body, hyr, hR⟩ := hY x xs w1 g1 s.hl w g' (as.map a.eval) hJ hs'.x hs'.h hrel
      have hev : a.eval (.tmp i) = .func (.yield l) #[] #[] := by simpa [Act.eval] using hu
      have hrun : (o.semAt (FR none).round a.eval).run P w = .ok (.round l fn tmps assign body) w := by
        show (execOp a.eval o).run P w = _
        simp [execOp, ho, resolve, hev, Deferred.ofValue, invoke, hyr]
      refine ⟨fun _ _ => trivial, ?_⟩
      rw [hrun, Oper.uponIn_round]
      refine ⟨(fun h => by cases h), RoundIn.mono hR ?_⟩
      rintro e w3 ⟨g3, h3, hh3, ⟨rfl, hx3, hown, hJ3⟩ | ⟨rfl, ⟨w', ob, rfl, hx3, hli, hlO, hlF⟩, hJ3⟩⟩
      · refine evalOpsY_sound ht hY hK os ⟨true, xs, h3⟩ _ w3 g3 w3 g3 _ h3 ⟨hh3, fun _ => hJ3, fun e => by cases e⟩ ⟨?_, hh3, Ext.refl _ _ _⟩ (hkt h3 hown)
        exact (hs'.f.ext hx3 (Nat.lt_succ_self D) hs'.h.apart).put o.dst hd fun _ _ => .inl (.bool _)
      · refine evalOpsY_sound ht hY hK os ⟨false, [], h3⟩ _ (withObj w' l ob) g3 (withObj w' l ob) g3 _ h3 ⟨hh3, fun e => (by cases e), fun _ => hJ3⟩ ⟨?_, hh3, Ext.refl _ _ _⟩ (hkf h3)
        have hf := hs'.f.ext hx3 (Nat.lt_succ_self D) hs'.h.apart
        have hf2 : FRel D n a (withObj w' l ob) g3 env' := ⟨hf.size, fun i => WriteM.vat hlF hlO (hf.slot i), ⟨⟨[], hf.defers.none rfl, .nil, by simp⟩, fun _ e => by cases e⟩⟩
        exact hf2.put o.dst hd fun _ _ => .inl (.bool _)

theorem wpY_sound [SortOK P] (ht : TyTab P ty) (hm : P.follows .mixedOrders = true) {J : List Step → World → Gh → H → Prop} {Jx : World → Gh → H → Prop} (hY : YieldOK P D l own J Jx) : ∀ (c : Code) (Q : YSt → PostX) (s : YSt) (a : Act) (w1 : World) (g1 : Gh) (w : World) (g : Gh) (env : Env) (h : H),
    BaseY J Jx s w1 g1 → St D n w1 g1 a w g env h → wpY ty (Sound P) n keep tk l own c Q s env h → c.wpIn (FR none) 0 P (QYC D n J Jx Q) a w
  | .skip, Q, s, a, w1, g1, w, g, env, h, hb, hs, hr => Go.wpIn_skip ⟨s, w1, g1, .normal, g, env, h, trivial, hr, hb, hs⟩
  | .exit id, Q, s, a, w1, g1, w, g, env, h, hb, hs, hr => Go.wpIn_exit ⟨s, w1, g1, .exit id, g, env, h, rfl, hr, hb, hs⟩
  | .ret, Q, s, a, w1, g1, w, g, env, h, hb, hs, hr => Go.wpIn_ret ⟨s, w1, g1, .ret, g, env, h, trivial, hr, hb, hs⟩
  | .region id ops draw, Q, s, a, w1, g1, w, g, env, h, hb, hs, hr => by
    simp only [wpY] at hr
    cases draw with
    | true =>
      rw [if_pos rfl] at hr
      refine Go.wpIn_mono (wpIn_sound (ro := none) ht hm (w0 := w1) (g0 := g1) (.region id ops true) _ a w g env h ⟨.inl rfl, .inl rfl⟩ hs hr) fun e a w hq => ?_
      obtain ⟨e', g, env, h, he, hq, hs⟩ := hq
      cases e' <;> cases e <;> simp only [ExRel] at he <;> simp only [] at hq
      exact ⟨s, w1, g1, .normal, g, env, h, trivial, hq, hb, hs⟩
    | false =>
    simp only [Bool.false_eq_true, if_false] at hr
    have := evalOpsY_sound ht hY (Q := QYC D n J Jx Q) (fun s w1 g1 a w g env h hb hs hk => ⟨s, w1, g1, .normal, g, _, h, trivial, hk, hb, ⟨hs.f.keep keep, hs.h, hs.x⟩⟩) ops.toList s a w1 g1 w g env h hb hs hr
    exact wpIn_region_list (by simpa using this)
  | .seq x y, Q, s, a, w1, g1, w, g, env, h, hb, hs, hr => by
    refine Go.wpIn_seq (Go.wpIn_mono (wpY_sound ht hm hY x _ s a w1 g1 w g env h hb hs hr) fun e a w hq => ?_)
    obtain ⟨s, w1, g1, e', g, env, h, he, hq, hb, hs⟩ := hq
    have he0 := he
    cases e' <;> cases e <;> simp only [ExRel] at he <;> simp only [thenQ] at hq <;> simp only [Exit.then]
    · exact wpY_sound ht hm hY y Q s a w1 g1 _ g env h hb hs hq
    all_goals exact ⟨s, w1, g1, _, g, env, h, he0, hq, hb, hs⟩
  | .cond c x y, Q, s, a, w1, g1, w, g, env, h, hb, hs, hr => by
    simp only [wpY] at hr
    split at hr
    · rename_i t hv
      have he := ev_rel (ty := ty) hs.f 0 c
      rw [hv] at he
      refine Go.wpIn_cond (t := t) he.bool_inv ?_
      cases t with
      | true => simp only [if_true] at hr ⊢; exact wpY_sound ht hm hY x Q s a w1 g1 w g env h hb hs hr
      | false => simp only [Bool.false_eq_true, if_false] at hr ⊢; exact wpY_sound ht hm hY y Q s a w1 g1 w g env h hb hs hr
    · exact hr.elim
  | .block id b, Q, s, a, w1, g1, w, g, env, h, hb, hs, hr => by
    refine Go.wpIn_block (Go.wpIn_mono (wpY_sound ht hm hY b _ s a w1 g1 w g env h hb hs hr) fun e a w hq => ?_)
    obtain ⟨s, w1, g1, e', g, env, h, he, hq, hb, hs⟩ := hq
    have he0 := he
    cases e' <;> cases e <;> simp only [ExRel] at he <;> simp only [] at hq <;> simp only [Exit.inBlock]
    case exit.exit i j =>
      subst he
      by_cases hi : i = id
      · rw [if_pos hi] at hq ⊢; exact ⟨s, w1, g1, .normal, g, env, h, trivial, hq, hb, hs⟩
      · rw [if_neg hi] at hq ⊢; exact ⟨s, w1, g1, .exit i, g, env, h, rfl, hq, hb, hs⟩
    all_goals exact ⟨s, w1, g1, _, g, env, h, he0, hq, hb, hs⟩
  | .loop b, Q, s, a, w1, g1, w, g, env, h, hb, hs, hr => by
    simp only [wpY] at hr
    have key := hr (fun s env' h' => ∀ a' w1' g1' w' g', BaseY J Jx s w1' g1' → St D n w1' g1' a' w' g' env' h' → ∀ (fb : Frame) (k : List Item) (cs : List Frame) (hro : fb.roundOf = (FR none).round) (hbf : (FR none).fn fb.fn) (hrm : (FR none).room (cs.length + 1 + 0)),
      ∃ e a1 w2, QYC D n J Jx Q e a1 w2 ∧ ArrivesIn (Machine.fenced P (FR none)) P (lone (fb.atR a' (.code b :: .inLoop b :: k)) cs w') fb k cs e a1 w2) ?_
    · intro fb k cs hro hbf hrm
      obtain ⟨g', env', h', hs', hk⟩ := hs.wk hb.1 key
      obtain ⟨e, a', w', hq, harr⟩ := hk a w1 g1 w g' hb hs' fb k cs hro hbf hrm
      exact ⟨e, a', w', hq, .of_steps (.one (fenced_calm hbf hrm rfl) stepR_loop) harr⟩
    · intro s env' h' hbd a' w1' g1' w' g' hb' hs' fb k cs hro hbf hrm
      obtain ⟨e, a1, w2, hq, harr⟩ := wpY_sound ht hm hY b _ s a' w1' g1' w' g' env' h' hb' hs' hbd fb (.inLoop b :: k) cs hro hbf hrm
      obtain ⟨s2, w3, g3, e', g4, env2, h2, he, hq, hb2, hs2⟩ := hq
      have he0 := he
      cases e' <;> cases e <;> simp only [ExRel] at he <;> simp only [thenQ] at hq
      case normal.normal =>
        obtain ⟨g5, env5, h5, hs5, hk⟩ := hs2.wk hb2.1 hq
        obtain ⟨e2, a2, w5, hq2, harr2⟩ := hk a1 w3 g3 w2 g5 hb2 hs5 fb k cs hro hbf hrm
        exact ⟨e2, a2, w5, hq2, .of_steps (StepsIn.trans harr (.one (fenced_calm hbf hrm rfl) stepR_inLoop)) harr2⟩
      all_goals exact ⟨_, a1, w2, ⟨s2, w3, g3, _, g4, env2, h2, he0, hq, hb2, hs2⟩, .pass (x := .inLoop b) rfl (fun _ _ => .inl (by simp)) harr⟩
  | .label _, Q, s, a, w1, g1, w, g, env, h, hb, hs, hr | .scope _, Q, s, a, w1, g1, w, g, env, h, hb, hs, hr | .goto _, Q, s, a, w1, g1, w, g, env, h, hb, hs, hr | .rangeFunc _ _ _ _, Q, s, a, w1, g1, w, g, env, h, hb, hs, hr | .refuse _, Q, s, a, w1, g1, w, g, env, h, hb, hs, hr => hr.elim

/-- An iterator's law, out of its code's run. -/
theorem iterLaw_of_wpY [SortOK P] (ht : TyTab P ty) (hm : P.follows .mixedOrders = true) {f : FuncId} {fn : Func} {c : Code} {caps : List V} {h : H} {ss : List Step} (hfn : P.funcs[f]? = some fn) (hbody : fn.body = some c) (hname : (fn.name == "runtime.NumGoroutine") = false) (hres : fn.results = #[]) (hn : fn.ntmps = n) (hlen : caps.length + 1 ≤ n)
    (hw : ∀ l, wpY ty (Sound P) n keep tk l own c endY ⟨true, ss, h⟩ (initEnv keep ((.raw (.func (.yield l) #[] #[]) :: caps).map V.demote)) h) : IterLaw P f caps h own ss := by
  subst hn
  refine ⟨⟨fn, hfn, by rw [hbody]; rfl, hname⟩, fun D w g cargs l J Jx hh hargs hJ hY => callsIn_of_wp_marks (n := 0) hfn hbody trivial ?_⟩
  have hargs' : LRel w g.F g.ι (.raw (.func (.yield l) #[] #[]) :: caps) (#[Value.func (.yield l) #[] #[]] ++ cargs).toList := by
    simp only [Array.toList_append, List.cons_append, List.nil_append]
    exact LRel.cons (.raw _) hargs
  have hf := init_frel (D := D) (N := fn.ntmps) (keep := keep) (by simpa using hlen) hargs'
  refine Go.wpIn_mono (wpY_sound ht hm hY c endY ⟨true, ss, h⟩ _ w g w g _ h ⟨hh, fun _ => hJ, fun e => by cases e⟩ ⟨hf, hh, Ext.refl _ _ _⟩ (hw l)) fun e a w2 hq => ?_
  obtain ⟨s, w1, g1, e', g2, env, h2, he, hq, hb, hs⟩ := hq
  have fin : endY s .ret env h2 → LeavesInM Fence.wide 0 P fn a.tmps (fun e w' => (∃ v, e = .returned v) ∧ ∃ w1 g1 h1 g', (J [] w1 g1 h1 ∨ Jx w1 g1 h1) ∧ Ext D w1 g1 w' g' ∧ HRel w' g' h1) a.defers .returning w2 := fun hq => by
    obtain ⟨hss, hk⟩ := hq
    obtain ⟨g', env', h', hs', rfl⟩ := hs.wk hb.1 hk
    rw [hs'.f.defers.none rfl]
    refine ⟨.tuple #[], by simp [Go.results, hres], ⟨_, rfl⟩, w1, g1, s.hl, g', ?_, hs'.x, hs'.h⟩
    cases hl : s.live with
    | true => have := hb.2.1 hl; rw [hss hl] at this; exact .inl this
    | false => exact .inr (hb.2.2 hl)
  cases e' <;> cases e <;> simp only [ExRel] at he
  case normal.normal => exact fin hq
  case ret.ret => exact fin hq
  all_goals exact hq.elim
end
end Go.Proofs.YtmjohmefhikelaaDoor.Pv
