/- The pure evaluator, part N: regions, code, calls: whatever is shown of the pure run holds of the machine's. -/
import Derived.Test.YtmjohmefhikelaaDoorPwM
import Derived.Test.YtmjohmefhikelaaDoorPwO
import Derived.Scope
import Derived.RangeFuncSeq
set_option linter.unusedVariables false
set_option linter.unusedSimpArgs false
namespace Go.Proofs.YtmjohmefhikelaaDoor.Pv
open Go

/-- What a call's answer is. -/
def CallPost (D : Nat) (w : World) (g : Gh) (Q : Out → H → Prop) (e : Ending) (w' : World) : Prop :=
  ∃ g' h', Ext D w g w' g' ∧ HRel w' g' h' ∧
    ((∃ v u i, e = .returned u ∧ Q (.ret v) h' ∧ VAt w' g' (.slot D i) v u) ∨ (∃ v u, e = .panicked [{ v := u, recovered := false }] ∧ Q (.panic v) h' ∧ VRel w' g'.F g'.ι v u))

/-- A call that is as it is said. -/
def SoundF (P : Program) : CallP := fun f args h Q =>
  (∃ fn, P.funcs[f]? = some fn ∧ fn.body.isSome = true ∧ (fn.name == "runtime.NumGoroutine") = false) ∧
  ∀ (D : Nat) (w : World) (g : Gh) (cargs : Array Value), HRel w g h → LRel w g.F g.ι args cargs.toList → Calls P f cargs w (CallPost D w g Q)

/-- An iterator that yields, whatever the rounds do, these things in order: ahead of each it has put some objects anew; on its own it leans. -/
def IterLaw (P : Program) (f : FuncId) (caps : List V) (h : H) (own : List Nat) (ss : List Step) : Prop :=
  (∃ fn, P.funcs[f]? = some fn ∧ fn.body.isSome = true ∧ (fn.name == "runtime.NumGoroutine") = false) ∧
  ∀ (D : Nat) (w : World) (g : Gh) (cargs : Array Value) (l : Nat) (J : List Step → World → Gh → H → Prop) (Jx : World → Gh → H → Prop), HRel w g h → LRel w g.F g.ι caps cargs.toList → J ss w g h →
    (∀ (s : Step) (ss' : List Step) (w1 : World) (g1 : Gh) (h1 : H) (w2 : World) (g2 : Gh) (xs : Array Value), J (s :: ss') w1 g1 h1 → Ext D w1 g1 w2 g2 → HRel w2 g2 (updH s.1 h1) → LRel w2 g2.F g2.ι s.2 xs.toList →
      YieldAt Fence.wide 0 P l xs w2 fun e w3 => ∃ g3 h3, HRel w3 g3 h3 ∧ ((e = .returned (.bool true) ∧ Ext (D + 1) w2 g2 w3 g3 ∧ (∀ i ∈ own, h3[i]? = (updH s.1 h1)[i]?) ∧ J ss' w3 g3 h3) ∨
        (e = .returned (.bool false) ∧ (∃ w' o, w3 = withObj w' l o ∧ Ext (D + 1) w2 g2 w' g3 ∧ l ∉ g3.ι ∧ g3.O l = none ∧ g3.F l = 0) ∧ Jx w3 g3 h3))) →
    CallsIn Fence.wide 0 P f (#[.func (.yield l) #[] #[]] ++ cargs) w fun e w' => (∃ v, e = .returned v) ∧ ∃ w1 g1 h1 g', (J [] w1 g1 h1 ∨ Jx w1 g1 h1) ∧ Ext D w1 g1 w' g' ∧ HRel w' g' h1
def IterS (P : Program) : CallP := fun f args h Q => ∃ own ss, Q (.steps own ss) h ∧ IterLaw P f args h own ss
/-- Functions by their numbers; iterators by theirs and iterBase. -/
def Sound (P : Program) : CallP := fun f args h Q => (f < 1000000 → SoundF P f args h Q) ∧ (1000000 ≤ f → IterS P (f - 1000000) args h Q)

section
variable {P : Program} {ty : Nat → Ty} {tk keep : List Nat} {d n : Nat}
variable [DS]

omit [DS] in
theorem move_ext' {d d' i : Nat} {q : Place} {u : Value} (g : Gh) (w : World) (hd : d ≤ d') : Ext d w g w (g.move (.slot d' i) q u) := by
  refine ⟨rfl, rfl, rfl, Nat.le_refl _, ⟨fun _ _ _ => rfl, fun b => by rw [Gh.move_F]; exact Nat.le_refl _, fun _ _ hb => by rw [Gh.move_ι]; exact hb⟩, fun b hb => .inl (by rw [Gh.move_ι] at hb; exact hb), fun b hlt hι hc hs => ⟨rfl, by rw [Gh.move_F], ?_⟩⟩
  rcases Gh.move_O g (.slot d' i) q u b with e | ⟨e, _⟩
  · exact e
  · exact absurd e (hs d' i hd)

/-- The state behind some steps from (w0, g0). -/
structure St (d n : Nat) (w0 : World) (g0 : Gh) (a : Act) (w : World) (g : Gh) (env : Env) (h : H) : Prop where
  f : FRel d n a w g env
  h : HRel w g h
  x : Ext d w0 g0 w g

theorem wanted_spec {ops : List Oper} {o : Oper} {env : Env} {b : Bool} {a : Act} {w : World} {g : Gh} (hw : wanted ops o env = some b) (hf : FRel d n a w g env) : Region.wanted o (yielded ops.toArray a.tmps) = b := by
  unfold wanted at hw
  unfold Region.wanted
  split at hw
  · rename_i hg
    simp only [Option.some.injEq] at hw
    simp [hg, hw]
  · rename_i j c hg
    simp only [hg]
    split at hw
    · rename_i t hdst
      split at hw
      · rename_i b' hb'
        simp only [Option.some.injEq] at hw
        have hv := (hf.slot t)
        rw [hb'] at hv
        have hv2 : a.tmps.getD t undef = .bool b' := by
          have := hv.demote
          exact VRel.bool_inv this
        have hy : yielded ops.toArray a.tmps j = some b' := by
          unfold yielded
          simp only [List.getElem?_toArray, hdst, Option.bind_some]
          have : a.tmps[t]? = some (.bool b') := by
            cases he : a.tmps[t]? with
            | none => simp [Array.getD_eq_getD_getElem?, he, undef] at hv2
            | some x => simp [Array.getD_eq_getD_getElem?, he] at hv2; rw [hv2]
          rw [this]
        rw [hy, ← hw]
        rfl
      · rename_i hb'
        simp only [Option.some.injEq] at hw
        have hv := (hf.slot t)
        rw [hb'] at hv
        have hv2 : a.tmps.getD t undef = .tuple #[] := by
          have hd := hv.demote
          simp only [V.demote] at hd
          generalize a.tmps.getD t undef = u at hd
          cases hd with
          | tup _ ca hl _ =>
            have : ca = #[] := by apply Array.eq_empty_of_size_eq_zero; simpa using hl.symm
            rw [this]
        have hy : yielded ops.toArray a.tmps j = none := by
          unfold yielded
          simp only [List.getElem?_toArray, hdst, Option.bind_some]
          cases he : a.tmps[t]? with
          | none => rfl
          | some x => simp [Array.getD_eq_getD_getElem?, he] at hv2; rw [hv2]
        rw [hy, ← hw]
        rfl
      · cases hw
    · cases hw

omit [DS] in
theorem R1.res_call {r : R1} {env : Env} {h : H} {f : FuncId} {args : List V} (he : r.res env h = .call f args) : False := by cases r <;> simp [R1.res] at he
omit [DS] in
theorem R1.res_pan {r : R1} {env : Env} {h : H} {v : V} (he : r.res env h = .pan v) : False := by cases r <;> simp [R1.res] at he
omit [DS] in
theorem load_call {t : Nat} {b c : Bool} {p : V} {env : Env} {h : H} {f : FuncId} {args : List V} (he : load ty t b c p env h = .call f args) : False := by
  unfold load loadN at he; repeat' split at he
  all_goals cases he
omit [DS] in
theorem load_pan {t : Nat} {b c : Bool} {p : V} {env : Env} {h : H} {v : V} (he : load ty t b c p env h = .pan v) : False := by
  unfold load loadN at he; repeat' split at he
  all_goals cases he
omit [DS] in
theorem store_call {t : Nat} {p x : V} {env : Env} {h : H} {f : FuncId} {args : List V} (he : store ty t p x env h = .call f args) : False := by
  unfold store at he; repeat' split at he
  all_goals cases he
omit [DS] in
theorem store_pan {t : Nat} {p x : V} {env : Env} {h : H} {v : V} (he : store ty t p x env h = .pan v) : False := by
  unfold store at he; repeat' split at he
  all_goals cases he
omit [DS] in
theorem builtin_call {b : Builtin} {ts : List Nat} {xs : List Operand} {env : Env} {h : H} {f : FuncId} {args : List V} (he : builtin ty b ts xs env h = .call f args) : False := by
  unfold builtin at he; repeat' split at he
  all_goals first | cases he | exact R1.res_call he
omit [DS] in
theorem builtin_pan {b : Builtin} {ts : List Nat} {xs : List Operand} {env : Env} {h : H} {v : V} (he : builtin ty b ts xs env h = .pan v) : False := by
  unfold builtin at he; repeat' split at he
  all_goals first | cases he | exact R1.res_pan he

omit [DS] in
theorem R1.res_each {r : R1} {env : Env} {h : H} {f : Value → Res} (he : r.res env h = .each f) : False := by cases r <;> simp [R1.res] at he
omit [DS] in
theorem store_each {t : Nat} {p x : V} {env : Env} {h : H} {f : Value → Res} (he : store ty t p x env h = .each f) : False := by
  unfold store at he; repeat' split at he
  all_goals cases he
omit [DS] in
theorem builtin_each {b : Builtin} {ts : List Nat} {xs : List Operand} {env : Env} {h : H} {f : Value → Res} (he : builtin ty b ts xs env h = .each f) : False := by
  unfold builtin at he; repeat' split at he
  all_goals first | cases he | exact R1.res_each he
omit [DS] in
theorem aop_each {tk : List Nat} {o : Oper} {env : Env} {h : H} {f : Value → Res} (he : aop ty tk o env h = .each f) : (∃ t x, o.op = .load t x ∧ load ty t (tkB tk o.dst) (lnB tk o.dst) (ev ty env 0 x) env h = .each f) ∨ (∃ op t x y t', o.op = .binOp op t x y t' ∧ sliceNil ty op t (isC x || isC y) (ev ty env t x) (ev ty env t' y) env h = some (.each f)) ∨ ∃ x, o.op = .next x false ∧ nextM (ev ty env 0 x) env h = .each f := by
  unfold aop at he
  split at he
  case h_10 t x ho => exact .inl ⟨t, x, ho, he⟩
  case h_37 x ho => exact .inr (.inr ⟨x, ho, he⟩)
  case h_14 op t x y t' ho =>
    cases hsn : sliceNil ty op t (isC x || isC y) (ev ty env t x) (ev ty env t' y) env h with
    | some r => rw [hsn] at he; exact .inr (.inl ⟨op, t, x, y, t', ho, by rw [hsn]; exact congrArg some he⟩)
    | none => rw [hsn] at he; exact (R1.res_each he).elim
  all_goals (exfalso; repeat' split at he)
  all_goals first
    | (cases he; done)
    | exact R1.res_each he
    | exact store_each he
    | exact builtin_each he
    | exact rowApp_each _ he
    | exact rangeOp_each _ he
    | exact nextOp_each he
    | exact entryOp_each he
    | exact sliceOp_each _ he
    | exact update_each _ he
omit [DS] in
theorem aop_call_lt {tk : List Nat} {o : Oper} {env : Env} {h : H} {f : FuncId} {args : List V} (he : aop ty tk o env h = .call f args) : f < 1000000 := by
  unfold aop at he
  split at he
  case h_14 op t x y t' ho =>
    cases hsn : sliceNil ty op t (isC x || isC y) (ev ty env t x) (ev ty env t' y) env h with
    | some r =>
      obtain ⟨_, _, _, _, _, _, _, rfl⟩ := sliceNil_each ty hsn
      rw [hsn] at he; cases he
    | none => rw [hsn] at he; exact (R1.res_call he).elim
  case h_29 fo as ts ho =>
    split at he
    · split at he
      · rename_i hsz
        simp only [Res.call.injEq] at he
        obtain ⟨rfl, rfl⟩ := he
        exact hsz.2
      · cases he
    · cases he
  all_goals (repeat' split at he)
  all_goals first
    | (cases he; done)
    | exact (R1.res_call he).elim
    | exact (load_call he).elim
    | exact (store_call he).elim
    | exact (builtin_call he).elim
    | exact (rowApp_call _ he).elim
    | exact (rangeOp_call _ he).elim
    | exact (nextOp_call he).elim
    | exact (nextM_call he).elim
    | exact (entryOp_call he).elim
    | exact (update_call _ he).elim
    | exact (sliceOp_call _ he).elim
/-- One operation. -/
theorem runOp_sound (ht : TyTab P ty) {w0 : World} {g0 : Gh} {ops : List Oper} {o : Oper} {Kc : Env → H → Prop} {X : V → Env → H → Prop} {next : Act → World → Prop} {Q : Exit → Act → World → Prop}
    (hK : ∀ a w g env h, St d n w0 g0 a w g env h → Kc env h → next a w) (hX : ∀ a w g env h v u, St d n w0 g0 a w g env h → X v env h → VRel w g.F g.ι v u → Q (.panic [{ v := u, recovered := false }]) a w)
    {a : Act} {w : World} {g : Gh} {env : Env} {h : H} (hs : St d n w0 g0 a w g env h) (hr : runOp ty (Sound P) n tk (wanted ops o env) o env h Kc X) :
    if Region.wanted o (yielded ops.toArray a.tmps) then o.wp P a w next Q else next (a.put o.dst undef) w := by
  unfold runOp at hr
  split at hr
  · rename_i hw
    rw [wanted_spec hw hs.f, if_pos rfl]
    unfold Res.upon at hr
    split at hr
    · rename_i p v env' h' he
      obtain ⟨hp, hd, hk⟩ := hr
      obtain ⟨u, w', g', hrun, hx, hh, hf, hv⟩ := aop_done ht hs.f hs.h he hp
      have hst : St d n w0 g0 (a.put o.dst u) w' g' (putD o.dst env' v) h' := ⟨hf.put o.dst hd hv, hh, hs.x.trans hx⟩
      unfold Oper.wp Oper.upon
      rcases hrun with hrun | ⟨hrun, rfl⟩
      · rw [hrun]; exact hK _ _ _ _ _ hst hk
      · rw [hrun]; exact hK _ _ _ _ _ hst hk
    · rename_i f args he
      obtain ⟨hd, hso, _⟩ := hr
      obtain ⟨⟨fn, hfn, hbody, hname⟩, hcall⟩ := hso (aop_call_lt he)
      -- the operation is a call of a function value
      have hop : ∃ (fo : Operand) (cargs : Array Value) (as : Array Operand) (ts : Array TypeId), o.op = .call { callee := .value fo, args := as, argTypes := ts } ∧
          (execOp a.eval o).run P w = .ok (.enter f cargs) w ∧ LRel w g.F g.ι args cargs.toList := by
        unfold aop at he
        split at he
        case h_14 op t x y t' ho =>
          cases hsn : sliceNil ty op t (isC x || isC y) (ev ty env t x) (ev ty env t' y) env h with
          | some r =>
            obtain ⟨_, _, _, _, _, _, _, rfl⟩ := sliceNil_each ty hsn
            rw [hsn] at he; cases he
          | none => rw [hsn] at he; exact (R1.res_call he).elim
        case h_29 fo as ts ho =>
          have hfo := ev_rel (ty := ty) hs.f 0 fo
          split at he
          · rename_i f' fs cs hfv
            split at he
            · rename_i hsz
              replace hsz := hsz.1
              simp only [Res.call.injEq] at he
              obtain ⟨rfl, rfl⟩ := he
              rw [hfv] at hfo
              generalize hu : a.eval fo = u at hfo
              cases hfo with
              | func _ _ _ fa ca hfl hcl hfr hcr =>
                refine ⟨fo, fa ++ as.map a.eval ++ ca, as, ts, ho, ?_, ?_⟩
                · have hb2 : ¬ fn.body = none := by cases hb : fn.body <;> simp [hb] at hbody ⊢
                  have hn2 : ¬ fn.name = "runtime.NumGoroutine" := by simpa using hname
                  simp [execOp, ho, resolve, hu, Deferred.ofValue, invoke, callFunc, hfn, hn2, hb2]
                · simp only [Array.toList_append, Array.toList_map]
                  refine (LRel.append ⟨by simpa using hfl, fun k c u hc hu => hfr k c u hc (by simpa using hu)⟩ ?_).append ⟨by simpa using hcl, fun k c u hc hu => hcr k c u hc (by simpa using hu)⟩
                  refine ⟨by simp [List.length_zip]; omega, fun k c u hc hu => ?_⟩
                  rw [List.getElem?_map] at hc hu
                  obtain ⟨⟨x, t⟩, hxt, rfl⟩ := Option.map_eq_some_iff.1 hc
                  obtain ⟨y, hy, rfl⟩ := Option.map_eq_some_iff.1 hu
                  have hx2 : as.toList[k]? = some x := by
                    rw [List.getElem?_zip_eq_some] at hxt
                    exact hxt.1
                  rw [hy] at hx2
                  injection hx2 with hx2
                  subst hx2
                  exact ev_rel hs.f _ _
            · cases he
          · cases he
        all_goals (repeat' split at he)
        all_goals first
          | (cases he; done)
          | exact (R1.res_call he).elim
          | exact (load_call he).elim
          | exact (store_call he).elim
          | exact (builtin_call he).elim
          | exact (rowApp_call _ he).elim
          | exact (rangeOp_call _ he).elim
          | exact (nextOp_call he).elim
          | exact (nextM_call he).elim
          | exact (entryOp_call he).elim
          | exact (update_call _ he).elim
          | exact (sliceOp_call _ he).elim
      obtain ⟨fo, cargs, as, ts, ho, hrun, hrel⟩ := hop
      unfold Oper.wp Oper.upon
      rw [hrun]
      refine (hcall (d + 1) w g cargs hs.h hrel).mono fun e w' hpost => ?_
      obtain ⟨g', h', hx, hh, hcase⟩ := hpost
      have hfe : FRel d n a w' g' env := hs.f.ext hx (Nat.lt_succ_self d) hs.h.apart
      rcases hcase with ⟨v, u, i, rfl, hq, hv⟩ | ⟨v, u, rfl, hq, hv⟩
      · simp only [retK] at hq
        have hm : Ext d w' g' w' (g'.move (.slot (d + 1) i) (.slot d (o.dst.getD 0)) u) := move_ext' g' w' (Nat.le_succ d)
        refine hK _ _ (g'.move (.slot (d + 1) i) (.slot d (o.dst.getD 0)) u) _ _ ⟨?_, hh.moved (by simp), (hs.x.trans (hx.up (Nat.le_succ d))).trans hm⟩ hq
        refine (hfe.stays (p := .slot (d + 1) i) (fun j e => by injection e with e1; omega)).put o.dst hd (fun j hj => ?_)
        have e : o.dst.getD 0 = j := by rw [hj]; rfl
        rw [e]
        exact hv.moved
      · exact hX _ _ g' _ _ _ _ ⟨hfe, hh, hs.x.trans (hx.up (Nat.le_succ d))⟩ hq hv
    · rename_i v he
      have hop : ∃ x t v', o.op = .panic x ∧ ev ty env 0 x = .iface t v' ∧ v = .iface t v' := by
        unfold aop at he
        split at he
        case h_14 op t x y t' ho =>
          cases hsn : sliceNil ty op t (isC x || isC y) (ev ty env t x) (ev ty env t' y) env h with
          | some r =>
            obtain ⟨_, _, _, _, _, _, _, rfl⟩ := sliceNil_each ty hsn
            rw [hsn] at he; cases he
          | none => rw [hsn] at he; exact (R1.res_pan he).elim
        case h_30 x ho =>
          split at he
          · rename_i t v' hv'
            simp only [Res.pan.injEq] at he; exact ⟨x, t, v', ho, hv', he.symm⟩
          · cases he
        all_goals (repeat' split at he)
        all_goals first
          | (cases he; done)
          | exact (R1.res_pan he).elim
          | exact (load_pan he).elim
          | exact (store_pan he).elim
          | exact (builtin_pan he).elim
          | exact (rowApp_pan _ he).elim
          | exact (rangeOp_pan _ he).elim
          | exact (nextOp_pan he).elim
          | exact (nextM_pan he).elim
          | exact (entryOp_pan he).elim
          | exact (update_pan _ he).elim
          | exact (sliceOp_pan _ he).elim
      obtain ⟨x, t, v', ho, hev, rfl⟩ := hop
      have hx := ev_rel (ty := ty) hs.f 0 x
      rw [hev] at hx
      generalize hu : a.eval x = u at hx
      have hx2 := hx
      cases hx with
      | iface _ _ u' hu' =>
        have hrun : (execOp a.eval o).run P w = .halt (.panic (.iface t u')) w := by simp [execOp, ho, hu, Instr.panic, goPanic, Sem.run]
        unfold Oper.wp Oper.upon
        rw [hrun]
        exact hX _ _ _ _ _ _ _ hs hr hx2
    · rename_i f he
      have hev : ∃ u p v env' h', f u = .val p v env' h' ∧ (p → OpDone P d n o a w g v env' h') := by
        rcases aop_each he with ⟨t, x, ho, hl⟩ | ⟨op, t, x, y, t', ho, hl⟩ | ⟨x, ho, hl⟩
        · exact load_each ht.ok ho hl (ev_rel hs.f 0 x) hs.f hs.h
        · exact nil_each ht.ok hs.f hs.h ho hl
        · exact nextM_each ho hl (ev_rel (ty := ty) hs.f 0 x) hs.f hs.h
      obtain ⟨u0, p, v, env', h', hfu, hdone⟩ := hev
      have hr := hr u0
      rw [hfu] at hr
      obtain ⟨hp, hd, hk⟩ := hr
      obtain ⟨u, w', g', hrun, hx, hh, hf, hv⟩ := hdone hp
      have hst : St d n w0 g0 (a.put o.dst u) w' g' (putD o.dst env' v) h' := ⟨hf.put o.dst hd hv, hh, hs.x.trans hx⟩
      unfold Oper.wp Oper.upon
      rcases hrun with hrun | ⟨hrun, rfl⟩
      · rw [hrun]; exact hK _ _ _ _ _ hst hk
      · rw [hrun]; exact hK _ _ _ _ _ hst hk
    · exact hr.elim
  · rename_i hw
    rw [wanted_spec hw hs.f, if_neg (by simp)]
    exact hK _ _ _ _ _ ⟨hs.f.put o.dst hr.1 (fun _ _ => .inl (.tup [] #[] rfl (by simp))), hs.h, hs.x⟩ hr.2
  · exact hr.elim


/-- A region in the text's order. -/
theorem evalOps_sound (ht : TyTab P ty) {w0 : World} {g0 : Gh} {ops : List Oper} {Kc : Env → H → Prop} {X : V → Env → H → Prop} {Q : Exit → Act → World → Prop}
    (hK : ∀ a w g env h, St d n w0 g0 a w g env h → Kc env h → Q .normal a w) (hX : ∀ a w g env h v u, St d n w0 g0 a w g env h → X v env h → VRel w g.F g.ι v u → Q (.panic [{ v := u, recovered := false }]) a w) :
    ∀ (l : List Oper) (a : Act) (w : World) (g : Gh) (env : Env) (h : H), St d n w0 g0 a w g env h → evalOps ty (Sound P) n tk ops l Kc X env h → wpList P ops.toArray Q l a w
  | [], a, w, g, env, h, hs, hr => hK a w g env h hs hr
  | o :: os, a, w, g, env, h, hs, hr => by
    have := runOp_sound ht (Q := Q) (next := wpList P ops.toArray Q os) (fun a w g env h hs hk => evalOps_sound ht hK hX os a w g env h hs hk) hX hs hr
    unfold wpList
    split
    · rename_i hw; rw [if_pos hw] at this; exact .inl this
    · rename_i hw; rw [if_neg hw] at this; exact this

/-- A region in any order. -/
theorem evalAny_sound (ht : TyTab P ty) {w0 : World} {g0 : Gh} {ops : List Oper} {Kc : Env → H → Prop} {X : V → Env → H → Prop} {Q : Exit → Act → World → Prop}
    (hK : ∀ a w g env h, St d n w0 g0 a w g env h → Kc env h → Q .normal a w) (hX : ∀ a w g env h v u, St d n w0 g0 a w g env h → X v env h → VRel w g.F g.ι v u → Q (.panic [{ v := u, recovered := false }]) a w) :
    ∀ (fuel : Nat) (listed : Array Bool) (a : Act) (w : World) (g : Gh) (env : Env) (h : H), St d n w0 g0 a w g env h → evalAny ty (Sound P) n tk ops Kc X fuel listed env h → wpAny P .any ops.toArray Q fuel listed a w
  | 0, listed, a, w, g, env, h, hs, hr => ⟨hr.1, hK a w g env h hs hr.2⟩
  | fuel + 1, listed, a, w, g, env, h, hs, hr => by
    refine ⟨fun he => hK a w g env h hs (hr.1 he), fun i hi => ?_⟩
    obtain ⟨o, ho, hr2⟩ := hr.2 i hi
    have := runOp_sound ht (Q := Q) (next := wpAny P .any ops.toArray Q fuel (listed.setIfInBounds i true)) (fun a w g env h hs hk => evalAny_sound ht hK hX fuel _ a w g env h hs hk) hX hs hr2
    unfold wpOp
    rw [show ops.toArray[i]? = some o from by simpa using ho]
    simp only []
    split
    · rename_i hw; rw [if_pos hw] at this; exact .inl this
    · rename_i hw; rw [if_neg hw] at this; exact this

omit [DS] in
theorem wpAny_fuel {ops : Array Oper} {Q : Exit → Act → World → Prop} : ∀ (k : Nat) (listed : Array Bool) (a : Act) (w : World), wpAny P .any ops Q k listed a w → wpAny P .any ops Q (k + 1) listed a w
  | 0, listed, a, w, h => ⟨fun _ => h.2, fun i hi => by rw [h.1] at hi; cases hi⟩
  | k + 1, listed, a, w, h => ⟨h.1, fun i hi => wpOp_mono (fun a w hk => wpAny_fuel k _ a w hk) (h.2 i hi)⟩
omit [DS] in
theorem wpAny_more {ops : Array Oper} {Q : Exit → Act → World → Prop} {m : Nat} {listed : Array Bool} {a : Act} {w : World} (h : wpAny P .any ops Q m listed a w) : ∀ k, wpAny P .any ops Q (k + m) listed a w
  | 0 => by rw [Nat.zero_add]; exact h
  | k + 1 => by rw [Nat.succ_add]; exact wpAny_fuel _ _ _ _ (wpAny_more h k)
omit [DS] in
theorem wanted_take {ops : List Oper} {p : Nat} {o : Oper} {env : Env} {b : Bool} (h : wanted (ops.take p) o env = some b) : wanted ops o env = some b := by
  unfold wanted at h ⊢
  cases hg : o.guard with
  | none => rw [hg] at h; exact h
  | some q =>
    obtain ⟨g, c⟩ := q
    rw [hg] at h
    simp only [] at h ⊢
    cases ht : (ops.take p)[g]? with
    | none => rw [ht] at h; cases h
    | some og =>
      rw [ht] at h
      rw [List.getElem?_take] at ht
      split at ht
      · rw [ht]; exact h
      · cases ht
/-- What the second half has done so far: nothing. -/
def halfL (listed : Array Bool) (m : Nat) : Array Bool := (listed.toList ++ List.replicate m false).toArray
omit [DS] in
theorem halfL_get {listed : Array Bool} {m i : Nat} {d : Bool} (hi : i < listed.size) : (halfL listed m).getD i d = listed.getD i d := by
  simp only [halfL, Array.getD_eq_getD_getElem?, List.getElem?_toArray]
  rw [List.getElem?_append_left (by simpa using hi)]
  simp
omit [DS] in
theorem halfL_set {listed : Array Bool} {m i : Nat} (hi : i < listed.size) : (halfL listed m).setIfInBounds i true = halfL (listed.setIfInBounds i true) m := by
  apply Array.toList_inj.1
  simp only [halfL, Array.toList_setIfInBounds]
  rw [List.set_append_left _ _ (by simpa using hi)]
section
variable {ops : List Oper} {p : Nat} {listed : Array Bool} {m : Nat}
omit [DS] in
theorem head_at (hhd : headB ops p = true) {i : Nat} {o : Oper} (hi : i < p) (ho : ops[i]? = some o) : ∀ a ∈ o.after, Region.binds .any a = true → a.on < i := by
  intro a ha hb
  have := List.all_eq_true.1 hhd i (List.mem_range.2 hi)
  rw [ho] at this
  have := List.all_eq_true.1 this a (by simpa using ha)
  rw [hb] at this
  simpa using this
omit [DS] in
theorem half_ready (hhd : headB ops p = true) (hsz : listed.size = p) {i : Nat} (hi : i < p) : i ∈ Region.ready .any ops.toArray (halfL listed m) ↔ i ∈ Region.ready .any (ops.take p).toArray listed := by
  rw [mem_ready, mem_ready, halfL_get (by omega)]
  have : ops.toArray[i]? = (ops.take p).toArray[i]? := by
    simp only [List.getElem?_toArray, List.getElem?_take, if_pos hi]
  rw [this]
  refine and_congr_right fun _ => exists_congr fun o => and_congr_right fun hoi => forall_congr' fun a => forall_congr' fun ha => forall_congr' fun hb => ?_
  have ho : ops[i]? = some o := by simpa [List.getElem?_take, if_pos hi] using hoi
  rw [halfL_get (by have := head_at hhd hi ho a ha hb; omega)]
omit [DS] in
theorem half_behind (hsp : splitB ops p = true) (hsz : listed.size = p) {i : Nat} (hi : p ≤ i) (hr : i ∈ Region.ready .any ops.toArray (halfL listed m)) : ∀ j, j < p → listed.getD j false = true := by
  intro j hj
  rw [mem_ready] at hr
  obtain ⟨_, o, ho, hb⟩ := hr
  have ho' : ops[i]? = some o := by simpa using ho
  unfold splitB at hsp
  simp only [Bool.and_eq_true] at hsp
  have := List.all_eq_true.1 hsp.2 i (List.mem_range.2 (List.getElem?_eq_some_iff.1 ho').1)
  rw [ho'] at this
  simp only [Bool.or_eq_true, Nat.blt_eq] at this
  rcases this with h | h
  · omega
  · have := List.all_eq_true.1 h j (List.mem_range.2 hj)
    obtain ⟨a, ha, hab⟩ := List.any_eq_true.1 this
    simp only [Bool.and_eq_true, Nat.beq_eq] at hab
    have h9 := hb a (by simpa using ha) hab.1
    rw [hab.2, halfL_get (by omega)] at h9
    exact h9
omit [DS] in
theorem half_all (hhd : headB ops p = true) (hp : p ≤ ops.length) (hsz : listed.size = p) (hr : Region.ready .any (ops.take p).toArray listed = []) : ∀ j, j < p → listed.getD j false = true := by
  intro j
  induction j using Nat.strongRecOn with
  | ind j ih =>
    intro hj
    cases hs : listed.getD j false with
    | true => rfl
    | false =>
      exfalso
      have hjl : j < ops.length := by omega
      have hmem : j ∈ Region.ready .any (ops.take p).toArray listed := by
        rw [mem_ready]
        refine ⟨?_, ops[j], by simp [List.getElem?_take, hj, hjl], fun a ha hb => ?_⟩
        · have hjl2 : j < listed.size := by omega
          simp only [Array.getD_eq_getD_getElem?, Array.getElem?_eq_getElem hjl2, Option.getD_some] at hs ⊢; exact hs
        · have := head_at hhd hj (List.getElem?_eq_getElem hjl) a ha hb
          exact ih a.on this (by omega)
      rw [hr] at hmem
      cases hmem
end
/-- A region that falls into two. -/
theorem evalSplit_sound (ht : TyTab P ty) {w0 : World} {g0 : Gh} {ops : List Oper} {Kc : Env → H → Prop} {X : V → Env → H → Prop} {Q : Exit → Act → World → Prop}
    (hK : ∀ a w g env h, St d n w0 g0 a w g env h → Kc env h → Q .normal a w) (hX : ∀ a w g env h v u, St d n w0 g0 a w g env h → X v env h → VRel w g.F g.ι v u → Q (.panic [{ v := u, recovered := false }]) a w)
    {p : Nat} {ks : List Nat} (hsp : splitB ops p = true) (hhd : headB ops p = true) (a : Act) (w : World) (g : Gh) (env : Env) (h : H) (hs : St d n w0 g0 a w g env h)
    (hr : evalAny ty (Sound P) n tk (ops.take p) (fun e h => evalAny ty (Sound P) n tk ops Kc X (ops.length - p) ((List.replicate p true ++ List.replicate (ops.length - p) false).toArray) (e.keep ks) h) X p (Array.replicate p false) env h) :
    wpAny P .any ops.toArray Q ops.length (Array.replicate ops.length false) a w := by
  have hp : p ≤ ops.length := by
    unfold splitB at hsp
    simp only [Bool.and_eq_true] at hsp
    exact Nat.le_of_ble_eq_true hsp.1
  have done : ∀ (k : Nat) (listed : Array Bool) (a : Act) (w : World) (g : Gh) (env : Env) (h : H), listed.size = p → St d n w0 g0 a w g env h → Region.ready .any (ops.take p).toArray listed = [] →
      evalAny ty (Sound P) n tk ops Kc X (ops.length - p) ((List.replicate p true ++ List.replicate (ops.length - p) false).toArray) (env.keep ks) h → wpAny P .any ops.toArray Q (k + (ops.length - p)) (halfL listed (ops.length - p)) a w := by
    intro k listed a w g env h hsz hs hnil hk
    have hall := half_all hhd hp hsz hnil
    have e1 : listed.toList = List.replicate p true := by
      apply List.ext_getElem?
      intro j
      by_cases hj : j < p
      · have h1 := hall j hj
        have hjl : j < listed.size := by omega
        simp only [Array.getD_eq_getD_getElem?, Array.getElem?_eq_getElem hjl, Option.getD_some] at h1
        rw [Array.getElem?_toList, Array.getElem?_eq_getElem hjl, List.getElem?_replicate, if_pos hj, h1]
      · rw [List.getElem?_eq_none (by simp; omega), List.getElem?_eq_none (by simp; omega)]
    have e2 : halfL listed (ops.length - p) = (List.replicate p true ++ List.replicate (ops.length - p) false).toArray := by unfold halfL; rw [e1]
    rw [e2]
    exact wpAny_more (evalAny_sound ht hK hX _ _ a w g (env.keep ks) h ⟨hs.f.keep ks, hs.h, hs.x⟩ hk) k
  have main : ∀ (k : Nat) (listed : Array Bool) (a : Act) (w : World) (g : Gh) (env : Env) (h : H), listed.size = p → St d n w0 g0 a w g env h →
      evalAny ty (Sound P) n tk (ops.take p) (fun e h => evalAny ty (Sound P) n tk ops Kc X (ops.length - p) ((List.replicate p true ++ List.replicate (ops.length - p) false).toArray) (e.keep ks) h) X k listed env h →
      wpAny P .any ops.toArray Q (k + (ops.length - p)) (halfL listed (ops.length - p)) a w := by
    intro k
    induction k with
    | zero => exact fun listed a w g env h hsz hs hr => done 0 listed a w g env h hsz hs hr.1 hr.2
    | succ k ih =>
      intro listed a w g env h hsz hs hr
      by_cases hnil : Region.ready .any (ops.take p).toArray listed = []
      · exact done (k + 1) listed a w g env h hsz hs hnil (hr.1 hnil)
      · obtain ⟨i0, hi0⟩ := List.exists_mem_of_ne_nil _ hnil
        have hlt : ∀ i, i ∈ Region.ready .any (ops.take p).toArray listed → i < p ∧ listed.getD i true = false := fun i hi => by
          rw [mem_ready] at hi
          obtain ⟨h0, o, hoi, _⟩ := hi
          have := (Array.getElem?_eq_some_iff.1 hoi).1
          simp only [List.size_toArray, List.length_take] at this
          exact ⟨by omega, h0⟩
        rw [show k + 1 + (ops.length - p) = (k + (ops.length - p)) + 1 by omega]
        refine ⟨fun he => ?_, fun i hi => ?_⟩
        · have := (half_ready (m := ops.length - p) hhd hsz (hlt i0 hi0).1).2 hi0
          rw [he] at this; cases this
        · have hip : i < p := by
            apply Classical.byContradiction
            intro hge
            have h1 := half_behind hsp hsz (by omega) hi i0 (hlt i0 hi0).1
            have h2 := (hlt i0 hi0).2
            have hjl : i0 < listed.size := by have := (hlt i0 hi0).1; omega
            simp only [Array.getD_eq_getD_getElem?, Array.getElem?_eq_getElem hjl, Option.getD_some] at h1 h2
            rw [h1] at h2; cases h2
          obtain ⟨o, ho, hrun⟩ := hr.2 i ((half_ready hhd hsz hip).1 hi)
          have ho' : ops[i]? = some o := by rw [List.getElem?_take, if_pos hip] at ho; exact ho
          have hrun2 : runOp ty (Sound P) n tk (wanted ops o env) o env h (evalAny ty (Sound P) n tk (ops.take p) (fun e h => evalAny ty (Sound P) n tk ops Kc X (ops.length - p) ((List.replicate p true ++ List.replicate (ops.length - p) false).toArray) (e.keep ks) h) X k (listed.setIfInBounds i true)) X := by
            cases hw : wanted (ops.take p) o env with
            | none => rw [hw] at hrun; exact hrun.elim
            | some b => rw [hw] at hrun; rw [wanted_take hw]; exact hrun
          have := runOp_sound ht (Q := Q) (next := wpAny P .any ops.toArray Q (k + (ops.length - p)) ((halfL listed (ops.length - p)).setIfInBounds i true)) (fun a w g env h hs hk => by
            rw [halfL_set (by omega)]
            exact ih _ a w g env h (by simpa using hsz) hs hk) hX hs hrun2
          unfold wpOp
          rw [show ops.toArray[i]? = some o from by simpa using ho']
          simp only []
          split
          · rename_i hw; rw [if_pos hw] at this; exact .inl this
          · rename_i hw; rw [if_neg hw] at this; exact this
  have := main p (Array.replicate p false) a w g env h (by simp) hs hr
  rw [show p + (ops.length - p) = ops.length by omega] at this
  have e3 : halfL (Array.replicate p false) (ops.length - p) = Array.replicate ops.length false := by
    apply Array.toList_inj.1
    simp only [halfL, Array.toList_replicate, List.replicate_append_replicate]
    congr 1
    omega
  rw [e3] at this
  exact this

/-- The two sides' ways out. -/
def ExRel (w : World) (g : Gh) : Ex → Exit → Prop
  | .normal, .normal => True
  | .exit i, .exit j => i = j
  | .goto i, .goto j => i = j
  | .ret, .ret => True
  | .panic v, .panic c => ∃ u, c = [{ v := u, recovered := false }] ∧ VRel w g.F g.ι v u
  | _, _ => False
/-- What a code's end must be. -/
def QC (d n : Nat) (w0 : World) (g0 : Gh) (Q : PostX) (e : Exit) (a : Act) (w : World) : Prop :=
  ∃ e' g env h, ExRel w g e' e ∧ Q e' env h ∧ St d n w0 g0 a w g env h

omit [DS] in
theorem hasLabel_spec (l : Nat) : ∀ c : Code, hasLabel l c = (findLabel c l).isSome
  | .seq a b => by
    simp only [hasLabel, findLabel, hasLabel_spec l a, hasLabel_spec l b]
    cases findLabel a l <;> simp
  | .label l' => by simp only [hasLabel, findLabel]; split <;> simp_all
  | .skip | .region _ _ _ | .cond _ _ _ | .block _ _ | .loop _ | .rangeFunc _ _ _ _ | .exit _ | .scope _ | .goto _ | .ret | .refuse _ => by simp [hasLabel, findLabel]

theorem QC_then {w0 : World} {g0 : Gh} {x : Code} {Q : PostX} {nxt : Env → H → Prop} {y : Code} {a : Act} {w : World} (hx : x.wp P (QC d n w0 g0 (thenQ nxt Q)) a w)
    (hy : ∀ a w g env h, St d n w0 g0 a w g env h → nxt env h → y.wp P (QC d n w0 g0 Q) a w) : (Code.seq x y).wp P (QC d n w0 g0 Q) a w := by
  refine wp_seq (Go.wp_mono hx fun e a w hq => ?_)
  obtain ⟨e', g, env, h, he, hq, hs⟩ := hq
  have he0 := he
  cases e' <;> cases e <;> simp only [ExRel] at he <;> simp only [thenQ] at hq <;> simp only [Exit.then]
  · exact hy _ _ _ _ _ hs hq
  all_goals exact ⟨_, g, env, h, he0, hq, hs⟩

theorem QC_base {w0 w : World} {g0 g : Gh} (hx : Ext d w0 g0 w g) {Q : PostX} {e : Exit} {a : Act} {w1 : World} (hq : QC d n w g Q e a w1) : QC d n w0 g0 Q e a w1 := by
  obtain ⟨e', g1, env1, h1, he, hq, hs⟩ := hq
  exact ⟨e', g1, env1, h1, he, hq, ⟨hs.f, hs.h, hx.trans hs.x⟩⟩
theorem St.wk {w0 : World} {g0 : Gh} {he : H} (hh0 : HRel w0 g0 he) {a : Act} {w : World} {g : Gh} {env : Env} {h : H} (hs : St d n w0 g0 a w g env h) {K : Env → H → Prop} (hk : Wk he K env h) :
    ∃ g' env' h', St d n w0 g0 a w g' env' h' ∧ K env' h' := by
  obtain ⟨env', h', hw, hk⟩ := hk
  obtain ⟨g', h1, h2, h3⟩ := weak_sound hh0 hs.f hs.h hs.x hw
  exact ⟨g', env', h', ⟨h1, h2, h3⟩, hk⟩
theorem St.here {w0 : World} {g0 : Gh} {a : Act} {w : World} {g : Gh} {env : Env} {h : H} (hs : St d n w0 g0 a w g env h) : St d n w g a w g env h := ⟨hs.f, hs.h, Ext.refl _ _ _⟩
theorem QC_wk {w0 : World} {g0 : Gh} {he : H} (hh0 : HRel w0 g0 he) {Q : PostX} {e : Exit} {a : Act} {w1 : World} (hq : QC d n w0 g0 (wkQ he Q) e a w1) : QC d n w0 g0 Q e a w1 := by
  obtain ⟨e', g, env, h, he, hq, hs⟩ := hq
  have he0 := he
  cases e' <;> cases e <;> simp only [ExRel] at he <;> simp only [wkQ] at hq
  case normal.normal =>
    obtain ⟨g', env', h', hs', hk⟩ := hs.wk hh0 hq
    exact ⟨.normal, g', env', h', trivial, hk, hs'⟩
  all_goals exact ⟨_, g, env, h, he0, hq, hs⟩

/-- A slice of texts that a slot has for itself is sorted in place. -/
theorem sort_sound [SortOK P] {w0 : World} {g0 : Gh} {ops : List Oper} {i j : Nat} {dd : Option Nat} {f : FuncId} {Kc : Env → H → Prop} {Q : Exit → Act → World → Prop}
    (hK : ∀ a w g env h, St d n w0 g0 a w g env h → Kc env h → Q .normal a w) (hin : inPl ops = some (i, j, dd, f)) {a : Act} {w : World} {g : Gh} {env : Env} {h : H} (hs : St d n w0 g0 a w g env h) (hr : sortK n i j dd Kc env h) :
    wpList P ops.toArray Q ops a w := by
  unfold inPl at hin
  split at hin
  case h_2 => cases hin
  rename_i o1 o2
  split at hin
  case h_2 => cases hin
  rename_i i' j' f' k' ts' h1 h2 h3 h4 h6
  split at hin
  case isFalse => cases hin
  rename_i hb
  simp only [Option.some.injEq, Prod.mk.injEq] at hin
  obtain ⟨rfl, rfl, rfl, rfl⟩ := hin
  simp only [Bool.and_eq_true, beq_iff_eq, bne_iff_ne, ne_eq] at hb
  obtain ⟨⟨rfl, hij⟩, hf⟩ := hb
  obtain ⟨⟨fn, hfn, hbody, hname⟩, hnone, hsort⟩ := SortOK.ok (P := P) f' (by simpa using hf)
  obtain ⟨o, e, l, hev, hl, hi, hj, hdd, hk⟩ := hr
  have hsz := hs.f.size
  have hv := hs.f.slot i'
  rw [hev] at hv
  generalize hu : a.tmps.getD i' undef = u at hv
  have hrun1 : (execOp a.eval o1).run P w = .ok (.value u) w := by
    rw [← hu]; simp [execOp, h1, Act.eval]
  have hst1 : ∀ {w1 : World} {g1 : Gh} {env1 : Env}, FRel d n a w1 g1 env1 → FRel d n (a.put o1.dst u) w1 g1 (putD o1.dst env1 .top) := fun hf1 => hf1.put o1.dst (by rw [h2]; exact hj) (fun _ _ => .inl (.top _))
  have hev2 : (a.put o1.dst u).eval (.tmp k') = u := by
    rw [h2]
    simp [Act.eval, Act.put, Array.getElem?_setIfInBounds, hsz, hj]
  have hrun2 : (execOp (a.put o1.dst u).eval o2).run P w = .ok (.enter f' #[u]) w := by
    have hb2 : ¬ fn.body = none := by cases hb : fn.body <;> simp [hb] at hbody ⊢
    have hn2 : ¬ fn.name = "runtime.NumGoroutine" := by simpa using hname
    have hfe : (a.put o1.dst u).eval (.func f') = .func (.func f') #[] #[] := rfl
    simp [execOp, h4, resolve, hfe, hev2, Deferred.ofValue, invoke, callFunc, hfn, hn2, hb2]
  unfold wpList
  rw [if_pos (by simp [Region.wanted, h3])]
  left
  unfold Oper.wp
  rw [hrun1]
  show wpList P _ Q [o2] (a.put o1.dst u) w
  unfold wpList
  rw [if_pos (by simp [Region.wanted, h6])]
  left
  unfold Oper.wp
  rw [hrun2, Oper.upon_enter]
  rcases own_row (pr := some o) hv with ⟨p, rfl, hnil⟩ | ⟨b, off, cap, cur, vals, rfl, hb, hcap, hmx, hcs, htk, hvl, _, hw, h1', hrel, hF, hO⟩
  · refine (hnone w p 0).mono fun r w' hp => ?_
    obtain ⟨⟨v, rfl⟩, rfl⟩ := hp
    have hl0 : l = [] := by simpa using hnil
    subst hl0
    have hfr : FRel d n a w' g (env.put i' (.own e 1 (List.map V.str (sortT [])))) := by
      refine ⟨hs.f.size, fun q => ?_, hs.f.defers⟩
      rw [Env.get_put]
      split
      · rename_i hq; subst hq; rw [hu]; exact .inl (by simpa [sortT] using VRel.own0 e 1 p)
      · exact hs.f.slot q
    have hfin := (hst1 hfr).put o2.dst (u := v) (v := .top) hdd (fun _ _ => .inl (.top _))
    rw [h2] at hfin
    show Q .normal ((a.put o1.dst _).put o2.dst v) w'
    rw [h2]
    exact hK _ _ g _ _ ⟨hfin, hs.h, hs.x⟩ hk
  · have hlen : (List.map V.str l).length = l.length := by simp
    simp only [hlen] at hcap hvl htk hF ⊢
    have hcur : (cur.toList.drop off).take l.length = l.map encT := by
      rw [Nat.mul_one] at htk
      rw [htk]
      have hfl : (List.map V.str l).flatMap V.cells = List.map V.str l := by
        generalize l = l'
        induction l' with
        | nil => rfl
        | cons x xs ih => rw [List.map_cons, List.flatMap_cons, ih]; rfl
      rw [hfl] at hrel
      apply List.ext_getElem?
      intro q
      rcases Nat.lt_or_ge q l.length with hq | hq
      · have hq2 : q < vals.length := by rw [hvl]; omega
        have := hrel.2 q (.str l[q]) vals[q] (by simp [hq]) (List.getElem?_eq_getElem hq2)
        rw [List.getElem?_eq_getElem hq2, List.getElem?_map, List.getElem?_eq_getElem hq]
        simp only [Option.map_some, Option.some.injEq]
        generalize vals[q] = vq at this
        cases this with
        | str s _ hs' => rw [← hs']; rfl
      · rw [List.getElem?_eq_none (by rw [hvl]; omega), List.getElem?_eq_none (by simpa using hq)]
    refine (hsort w b off cap e cur l hb hcur (by rw [hcs]; omega) hl).mono fun r w' hp => ?_
    obtain ⟨⟨v, rfl⟩, hos, htape, hout, hsize, hold, cur', hb', hsz', hlow, hsorted⟩ := hp
    have hFo : g.F b = off := by rw [hF]; simp [rowF]
    obtain ⟨hx1, hh1, hf1⟩ := grown_room (m := off + l.length) (q := .slot d i') (c := cur') hs.h hs.f hb hO (by omega) (fun k hk' => hlow k (by omega))
    have hG : Grow (w.setRow b cur') (g.grown b (off + l.length) (.slot d i')) w' (g.grown b (off + l.length) (.slot d i')) := by
      refine ⟨hos, htape, hout, by simpa [World.setRow] using hsize, fun q hq => ⟨?_, rfl, rfl⟩, rfl, fun q hq => ?_⟩
      · have hq' : q < w.heap.size := by simpa [World.setRow] using hq
        by_cases hqb : q = b
        · subst hqb; rw [hb', setRow_heap w q cur cur' e (0, 0) hb]
        · rw [hold q hq' hqb, setRow_other w b q cur' hqb]
      · exact hh1.fresh q (by simpa [World.setRow] using Nat.le_trans hsize hq)
    have hfr0 := hG.frel hh1 hf1
    have hfr : FRel d n a w' (g.grown b (off + l.length) (.slot d i')) (env.put i' (.own e 1 (List.map V.str (sortT l)))) := by
      refine ⟨hs.f.size, fun q => ?_, hfr0.defers⟩
      have := hfr0.slot q
      rw [Env.get_put] at this ⊢
      by_cases hq : q = i'
      · rw [if_pos hq]
        subst hq
        rw [hu]
        have hls : (sortT l).length = l.length := by simp [sortT]
        have hfl : (List.map V.str (sortT l)).flatMap V.cells = List.map V.str (sortT l) := by
          generalize sortT l = l'
          induction l' with
          | nil => rfl
          | cons x xs ih => rw [List.map_cons, List.flatMap_cons, ih]; rfl
        refine .inr ⟨none, e, 1, List.map V.str (sortT l), b, off, cap, cur', (sortT l).map encT, rfl, by simp [hls], hb', by simpa [hls] using hcap, hmx, by rw [hsz', hcs], by simpa [hls] using hsorted, by simp, by omega, ?_, ?_, ?_, ?_, ?_, fun o u' ho => by cases ho⟩
        · intro x hx; obtain ⟨y, _, rfl⟩ := List.mem_map.1 hx; rfl
        · intro x hx; obtain ⟨y, _, rfl⟩ := List.mem_map.1 hx; rfl
        · rw [hfl]
          refine ⟨by simp, fun k c u' hc hu' => ?_⟩
          rw [List.getElem?_map] at hc hu'
          obtain ⟨y, hy, rfl⟩ := Option.map_eq_some_iff.1 hc
          rw [hy] at hu'
          simp only [Option.map_some, Option.some.injEq] at hu'
          subst hu'
          exact .str _ _ (by simp)
        · simp [Gh.grown, rowF, hls]
        · simp [Gh.grown]
      · rw [if_neg hq] at this ⊢; exact this
    have hfin := (hst1 hfr).put o2.dst (u := v) (v := .top) hdd (fun _ _ => .inl (.top _))
    rw [h2] at hfin
    show Q .normal ((a.put o1.dst _).put o2.dst v) w'
    rw [h2]
    rw [hlen] at hfin
    exact hK _ _ (g.grown b (off + l.length) (.slot d i')) _ _ ⟨hfin, hG.hrel hh1, hs.x.trans (hx1.trans (hG.ext hh1))⟩ hk

end
end Go.Proofs.YtmjohmefhikelaaDoor.Pv
