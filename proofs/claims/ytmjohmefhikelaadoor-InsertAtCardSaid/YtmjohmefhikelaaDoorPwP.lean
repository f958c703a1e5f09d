/- The pure evaluator, part P: what is shown of the pure run of a call holds of the machine's. -/
import Derived.Test.YtmjohmefhikelaaDoorPwNi
import Derived.Test.YtmjohmefhikelaaDoorPwNk
import Derived.Recover
set_option linter.unusedVariables false
set_option linter.unusedSimpArgs false
namespace Go.Proofs.YtmjohmefhikelaaDoor.Pv
open Go

section
variable {P : Program} {ty : Nat → Ty} {tk keep : List Nat} {d n : Nat} {a : Act} {w : World} {g : Gh} {env : Env} {h : H}
variable [DS]

def resSem (tmps : Array Value) : ResultVar → Sem Value
  | .tmp t => Pure.pure (tmps.getD t undef)
  | .cell a t => do loadVar t (← asAddr (tmps.getD a undef))

theorem resultOne_run (ht : TyTab P ty) (hf : FRel d n a w g env) (hh : HRel w g h) {r : ResultVar} {v : V} (he : resultOne ty r env h = some v) :
    ∃ u, (resSem a.tmps r).run P w = .ok u w ∧ ∃ i, VAt w g (.slot d i) v u := by
  unfold resultOne at he
  split at he
  · rename_i t
    simp only [Option.some.injEq] at he
    subst he
    exact ⟨_, by simp [resSem], t, hf.slot t⟩
  · rename_i x t
    split at he
    · rename_i id off hx
      split at he
      · rename_i cs hr
        split at he
        · rename_i hcnd
          simp only [Option.some.injEq] at he
          subst he
          have hs := (hf.slot x).demote
          rw [hx] at hs
          simp only [V.demote] at hs
          generalize hu : a.tmps.getD x undef = u at hs
          cases hs with
          | ref _ _ b hid =>
            obtain ⟨c, e, hb, hcs, hcr⟩ := hh.cells hr hid
            have hL := ((LRel.of_row hcs hcr).drop off).take (ty t).size
            rw [← List.map_drop, ← List.map_take, take_drop_take hcnd.1] at hL
            have hlen : (((cs.drop off).take (ty t).size).map V.demote).length = (ty t).size := by simp; omega
            have hrun := loadVar_run (w := w) ht.ok (t := t) (b := b) (off := off) (us := (c.toList.drop off).take (ty t).size) (fun k u hu => by
              rw [List.getElem?_take] at hu
              split at hu
              · rw [List.getElem?_drop] at hu
                simpa [World.cell?, hb] using hu
              · cases hu) (by rw [← hL.1]; exact hlen) hcnd.2
            refine ⟨_, ?_, 0, .inl (val_rel hL hlen hcnd.2)⟩
            simp only [resSem, Sem.run_bind, hu, asAddr, Sem.run_pure, Result.andThen_ok, hrun]
        · cases he
      · cases he
    · cases he

theorem resultAll_run (ht : TyTab P ty) (hf : FRel d n a w g env) (hh : HRel w g h) : ∀ {rs : List ResultVar} {vs : List V}, resultAll ty rs env h = some vs →
    ∃ us, (rs.mapM (resSem a.tmps)).run P w = .ok us w ∧ LRel w g.F g.ι vs us
  | [], vs, he => by simp only [resultAll, Option.some.injEq] at he; subst he; exact ⟨[], by simp, LRel.nil⟩
  | r :: rs, vs, he => by
    unfold resultAll at he
    split at he
    · rename_i v vs' h1 h2
      simp only [Option.some.injEq] at he
      subst he
      obtain ⟨u, hu, i, hv⟩ := resultOne_run ht hf hh h1
      obtain ⟨us, hus, hl⟩ := resultAll_run ht hf hh h2
      exact ⟨u :: us, by simp only [List.mapM_cons, Sem.run_bind, hu, hus, Result.andThen_ok, Sem.run_pure], LRel.cons hv.demote hl⟩
    · cases he

omit [DS] in
theorem resultAll_len : ∀ {rs : List ResultVar} {vs : List V}, resultAll ty rs env h = some vs → vs.length = rs.length
  | [], vs, he => by simp only [resultAll, Option.some.injEq] at he; subst he; rfl
  | r :: rs, vs, he => by
    unfold resultAll at he
    split at he
    · rename_i v vs' h1 h2
      simp only [Option.some.injEq] at he
      subst he
      simp [resultAll_len h2]
    · cases he

theorem results_run (ht : TyTab P ty) (hf : FRel d n a w g env) (hh : HRel w g h) {fn : Func} {v : V} (he : results ty fn.results.toList env h = some v) :
    ∃ u, (Go.results fn a.tmps).run P w = .ok u w ∧ ∃ i, VAt w g (.slot d i) v u := by
  have hm : ∀ us : List Value, (fn.results.toList.mapM (resSem a.tmps)).run P w = .ok us w → (Go.results fn a.tmps).run P w = .ok (if h : us.toArray.size = 1 then us.toArray[0] else .tuple us.toArray) w := by
    intro us hus
    have e0 : Go.results fn a.tmps = (do let vs ← fn.results.mapM (resSem a.tmps); Pure.pure (if h : vs.size = 1 then vs[0] else .tuple vs) : Sem Value) := by
      have hfun : resSem a.tmps = fun x : ResultVar => (match x with | .tmp t => Pure.pure (a.tmps.getD t undef) | .cell a' t => (do loadVar t (← asAddr (a.tmps.getD a' undef)) : Sem Value)) := by
        funext x; cases x <;> rfl
      rw [hfun]; rfl
    have e1 : (fn.results.mapM (resSem a.tmps)).run P w = .ok us.toArray w := by
      rw [Array.mapM_eq_mapM_toList, map_eq_pure_bind]
      simp only [Sem.run_bind, hus, Result.andThen_ok, Sem.run_pure]
    rw [e0]
    simp only [Sem.run_bind, e1, Result.andThen_ok, Sem.run_pure]
  unfold results at he
  split at he
  · rename_i r hr
    obtain ⟨u, hu, i, hv⟩ := resultOne_run ht hf hh he
    have := hm [u] (by rw [hr]; simp only [List.mapM_cons, List.mapM_nil, Sem.run_bind, hu, Result.andThen_ok, Sem.run_pure])
    exact ⟨u, by simpa using this, i, hv⟩
  · rename_i rs hne
    split at he
    · rename_i vs hvs
      simp only [Option.some.injEq] at he
      subst he
      obtain ⟨us, hus, hl⟩ := resultAll_run ht hf hh hvs
      have hlen : us.length = fn.results.toList.length := by rw [← hl.1, resultAll_len hvs]
      have hn1 : ¬ us.toArray.size = 1 := by
        intro h1
        have h1' : fn.results.toList.length = 1 := by rw [← hlen]; simpa using h1
        obtain ⟨r, hr⟩ := List.length_eq_one_iff.1 h1'
        exact hne r hr
      refine ⟨.tuple us.toArray, by rw [hm us hus, dif_neg hn1], 0, .inl (.tup _ _ (by simpa using hl.1) (fun k c u hc hu => hl.2 k c u hc (by simpa using hu)))⟩
    · cases he

end
section
variable {P : Program} {ty : Nat → Ty} {tk keep : List Nat} {d n : Nat} {a : Act} {w : World} {g : Gh} {env : Env} {h : H}
theorem initEnv_get (keep : List Nat) (args : List V) (i : Nat) : (initEnv keep args).get i = .top ∨ (initEnv keep args).get i = args.getD i .top := by
  unfold initEnv
  induction keep with
  | nil => exact .inl rfl
  | cons k ks ih =>
    simp only [List.map_cons, Env.get]
    by_cases h : i = k
    · subst h; rw [if_pos rfl]; exact .inr rfl
    · rw [if_neg h]; exact ih

theorem Sound.of {P : Program} {f : FuncId} {args : List V} {h : H} {Q : Out → H → Prop} (hlt : f < 1000000) (hs : SoundF P f args h Q) : Sound P f args h Q := ⟨fun _ => hs, fun hge => absurd hge (Nat.not_le.2 hlt)⟩
theorem Sound.of_fn {P : Program} [SortOK P] {f : FuncId} {fn : Func} (hfn : P.funcs[f]? = some fn) {args : List V} {h : H} {Q : Out → H → Prop} (hs : SoundF P f args h Q) : Sound P f args h Q :=
  .of (Nat.lt_of_lt_of_le (Array.getElem?_eq_some_iff.1 hfn).1 SortOK.small) hs
theorem Sound.of_iter {P : Program} {f : FuncId} {args : List V} {h : H} {Q : Out → H → Prop} (hs : IterS P f args h Q) : Sound P (1000000 + f) args h Q := ⟨fun hlt => absurd hlt (Nat.not_lt.2 (Nat.le_add_right _ _)), fun _ => by rw [Nat.add_sub_cancel_left]; exact hs⟩
/-- What a return comes to, whatever is deferred. -/
theorem ret_done [DS] (ht : TyTab P ty) {D : Nat} {fn : Func} {trunc : Bool} {Q : Out → H → Prop} {n : Nat} {a : Act} {w w1 : World} {g g1 : Gh} {env1 : Env} {h h1 : H} (hh : HRel w g h) (hf : FRel D n a w1 g1 env1) (hh1 : HRel w1 g1 h1) (hx : Ext D w g w1 g1) (hq : retQ ty fn.results.toList trunc h Q .ret env1 h1) :
    ∃ v, (Go.results fn a.tmps).run P w1 = .ok v w1 ∧ CallPost D w g Q (.returned v) w1 := by
  simp only [retQ] at hq
  split at hq
  · rename_i v hv
    obtain ⟨u, hu, i, hvat⟩ := results_run ht hf hh1 hv
    obtain ⟨v', hle, hq⟩ := hq
    replace hvat := hvat.le hle
    refine ⟨u, hu, ?_⟩
    split at hq
    · obtain ⟨hl, hc, ho, hQ⟩ := hq
      obtain ⟨x1, x2⟩ := leave_sound hh hh1 hx hl (ho.imp_right .inl)
      exact ⟨_, _, x1, x2, .inl ⟨_, u, i, rfl, hQ, handed_rel hh1 hvat hc⟩⟩
    · exact ⟨g1, h1, hx, hh1, .inl ⟨v', u, i, rfl, hq, hvat⟩⟩
  · exact hq.elim
theorem init_frel {D N : Nat} {w : World} {g : Gh} {keep : List Nat} {args : List V} {cargs : Array Value} (hlen : args.length ≤ N) (hargs : LRel w g.F g.ι args cargs.toList) :
    FRel D N { tmps := cargs ++ Array.replicate (N - cargs.size) undef, defers := [] } w g (initEnv keep (args.map V.demote)) := by
  have hsz : args.length = cargs.size := by have := hargs.1; simpa using this
  refine ⟨by simp; omega, fun i => ?_, ⟨⟨[], rfl, .nil, by simp⟩, fun _ e => by cases e⟩⟩
  rcases initEnv_get keep (args.map V.demote) i with e | e
  · rw [e]; exact .inl (.top _)
  · rw [e]
    by_cases hi : i < args.length
    · have hc : i < cargs.size := by omega
      have hr := hargs.2 i args[i] cargs[i] (List.getElem?_eq_getElem hi) (by simp [hc])
      have e1 : (args.map V.demote).getD i .top = args[i].demote := by simp [List.getD, hi]
      have e2 : (cargs ++ Array.replicate (N - cargs.size) undef).getD i undef = cargs[i] := by simp [Array.getD_eq_getD_getElem?, Array.getElem?_append, hc]
      rw [e1]
      show VAt w g _ _ ((cargs ++ Array.replicate (N - cargs.size) undef).getD i undef)
      rw [e2]
      exact .inl (VAt.of (p := .slot D i) hr).demote
    · have e1 : (args.map V.demote).getD i .top = .top := by simp [List.getD, hi]
      rw [e1]; exact .inl (.top _)
theorem wpOpsS_recover {ops : Array Oper} {Q : Exit → Act → List Frame → World → Prop} {rest : List Nat} {a : Act} {cs : List Frame} {w : World} {o : Oper} {i : Nat} (ho : ops[i]? = some o) (hw : Region.wanted o (yielded ops a.tmps) = true) (hr : (execOp a.eval o).run P w = .ok .recover w)
    (hq : wpOpsS P ops Q rest (a.put o.dst ((recoverD cs).getD (.nilIface, cs)).1) ((recoverD cs).getD (.nilIface, cs)).2 w) : wpOpsS P ops Q (i :: rest) a cs w := by
  rw [wpOpsS]
  simp only [ho, hw, if_true, hr]
  cases hrc : recoverD cs <;> rw [hrc] at hq <;> exact hq
/-- A deferred closure that asks what has been panicked. -/
theorem close_sound [SortOK P] (ht : TyTab P ty) (hm : P.follows .mixedOrders = true) {k : FuncId} {caps : List V} {pv : V} {h : H} {K : H → Prop} (hb : closeC P ty (Sound P) k caps pv h K) {D : Nat} {w : World} {g : Gh} {cargs : Array Value} (hh : HRel w g h) (hargs : LRel w g.F g.ι caps cargs.toList)
    {u : FrameMode} (hu : (pv = .nili ∧ u = .returning) ∨ ∃ uu, u = .panicking [{ v := uu, recovered := false }] ∧ VRel w g.F g.ι pv uu) :
    (∃ fn, P.funcs[k]? = some fn ∧ fn.body.isSome = true ∧ (fn.name == "runtime.NumGoroutine") = false) ∧
    CallsD P k cargs u w fun e u' w' => (∃ x, e = .returned x) ∧ settle u' = .returning ∧ ∃ g' h', Ext D w g w' g' ∧ HRel w' g' h' ∧ K h' := by
  obtain ⟨fn, id, o1, o2, rest, keep, tk, r, x, hfn, hname, hbody, ⟨hd1, hop1, hg1⟩, ⟨hd2, hop2, hg2⟩, hres, hlen, hr, ⟨hx, hnr⟩, hwp⟩ := hb
  refine ⟨⟨fn, hfn, by rw [hbody]; rfl, hname⟩, callsD_of_wpS hfn hbody fun c₀ cs hc0 => ?_⟩
  have hf := init_frel (D := D) (keep := keep) hlen hargs
  -- what is handed by recover
  obtain ⟨uv, cs', hrec, hset, hrel⟩ : ∃ (uv : Value) (c' : List Frame), (recoverD (c₀ :: cs)).getD (.nilIface, c₀ :: cs) = (uv, c') ∧ (∃ u', c' = { c₀ with mode := u' } :: cs ∧ settle u' = .returning) ∧ VRel w g.F g.ι pv uv := by
    rcases hu with ⟨rfl, rfl⟩ | ⟨uu, rfl, hv⟩
    · refine ⟨.nilIface, c₀ :: cs, ?_, ⟨.returning, ?_, rfl⟩, .nili⟩
      · simp [recoverD, hc0]
      · rw [← hc0]
    · exact ⟨uu, { c₀ with mode := .panicking [{ v := uu, recovered := true }] } :: cs, by simp [recoverD, hc0], ⟨_, rfl, by simp [settle]⟩, hv⟩
  obtain ⟨u', rfl, hset⟩ := hset
  refine wpS_seq (wpS_region ?_)
  have hrun1 : ∀ (a : Act) (w : World), (execOp a.eval o1).run P w = .ok .recover w := by
    intro a w
    simp [execOp, hop1, resolve, invoke, Go.builtin]
  have hrun2 : ∀ (a : Act) (w : World), (execOp a.eval o2).run P w = .ok (.value (a.eval (.tmp r))) w := by
    intro a w
    simp [execOp, hop2]
  have hw1 : ∀ y, Region.wanted o1 y = true := fun y => by simp [Region.wanted, hg1]
  have hw2 : ∀ y, Region.wanted o2 y = true := fun y => by simp [Region.wanted, hg2]
  generalize ha0 : ({ tmps := cargs ++ Array.replicate (fn.ntmps - cargs.size) undef, defers := [] } : Act) = a0 at hf ⊢
  have key : wpOpsS P #[o1, o2] (Exit.thenS (rest.wpS P (bodyPostS P fn c₀ cs fun e u' w' => (∃ x, e = .returned x) ∧ settle u' = .returning ∧ ∃ g' h', Ext D w g w' g' ∧ HRel w' g' h' ∧ K h')) (bodyPostS P fn c₀ cs fun e u' w' => (∃ x, e = .returned x) ∧ settle u' = .returning ∧ ∃ g' h', Ext D w g w' g' ∧ HRel w' g' h' ∧ K h')) [0, 1] a0 (c₀ :: cs) w := by
    have fin : wpOpsS P #[o1, o2] (Exit.thenS (rest.wpS P (bodyPostS P fn c₀ cs fun e u' w' => (∃ x, e = .returned x) ∧ settle u' = .returning ∧ ∃ g' h', Ext D w g w' g' ∧ HRel w' g' h' ∧ K h')) (bodyPostS P fn c₀ cs fun e u' w' => (∃ x, e = .returned x) ∧ settle u' = .returning ∧ ∃ g' h', Ext D w g w' g' ∧ HRel w' g' h' ∧ K h')) [1] (a0.put (some r) uv) ({ c₀ with mode := u' } :: cs) w := by
      have hf1 : FRel D fn.ntmps (a0.put (some r) uv) w g ((initEnv keep (caps.map V.demote)).put r .top) := hf.put (some r) hr fun _ _ => .inl (.top _)
      have hev : (a0.put (some r) uv).eval (.tmp r) = uv := by
        have hs : r < a0.tmps.size := by rw [hf.size]; exact hr
        simp [Act.eval, Act.put, Array.getD_eq_getD_getElem?, hs]
      have hf2 : FRel D fn.ntmps ((a0.put (some r) uv).put (some x) uv) w g (((initEnv keep (caps.map V.demote)).put r .top).put x pv) := hf1.put (some x) hx fun _ _ => .inl hrel
      simp only [wpOpsS, List.getElem?_toArray, List.getElem?_cons_succ, List.getElem?_cons_zero, hw2, if_true, hrun2, Oper.upon, hd2, hev]
      refine wpS_of_wp (Go.wp_mono (wp_sound ht hm (w0 := w) (g0 := g) rest _ _ w g _ h (.inl hnr) ⟨hf2, hh, Ext.refl _ _ _⟩ hwp) fun e a w1 hq => ?_)
      obtain ⟨e', g1, env1, h1, he, hq, hs⟩ := hq
      cases e' <;> cases e <;> simp only [ExRel] at he <;> simp only [closeQ] at hq
      all_goals exact ⟨hs.f.defers.none rfl, u', rfl, .tuple #[], by simp [Go.results, hres], ⟨_, rfl⟩, hset, g1, h1, hs.x, hs.h, hq⟩
    refine wpOpsS_recover (o := o1) rfl (hw1 _) (hrun1 _ _) ?_
    rw [hrec, hd1]
    exact fin
  exact key
/-- A call by the function's body. -/
theorem body_sound [SortOK P] (ht : TyTab P ty) (hm : P.follows .mixedOrders = true) {f : FuncId} {args : List V} {Q : Out → H → Prop} (hb : body P ty (Sound P) f args h Q) : Sound P f args h Q := by
  obtain ⟨fn, c, keep, tk, trunc, hfn, hname, hbody, hlen, hwp⟩ := hb
  refine Sound.of_fn hfn ⟨⟨fn, hfn, by rw [hbody]; rfl, hname⟩, fun D w g cargs hh hargs => callsIn_wide.1 (callsIn_of_wp_marks (n := 0) hfn hbody trivial (wpIn_wide.2 ?_))⟩
  letI dsI : DS := { ds := [], base := { top := some w.heap.size } }
  have hsz : args.length = cargs.size := by have := hargs.1; simpa using this
  have hf : FRel D fn.ntmps { tmps := cargs ++ Array.replicate (fn.ntmps - cargs.size) undef, defers := [] } w g (initEnv keep (args.map V.demote)) := by
    refine ⟨by simp; omega, fun i => ?_, ⟨⟨[], rfl, .nil, by simp⟩, fun _ e => by cases e⟩⟩
    rcases initEnv_get keep (args.map V.demote) i with e | e
    · rw [e]; exact .inl (.top _)
    · rw [e]
      by_cases hi : i < args.length
      · have hc : i < cargs.size := by omega
        have hr := hargs.2 i args[i] cargs[i] (List.getElem?_eq_getElem hi) (by simp [hc])
        have e1 : (args.map V.demote).getD i .top = args[i].demote := by simp [List.getD, hi]
        have e2 : (cargs ++ Array.replicate (fn.ntmps - cargs.size) undef).getD i undef = cargs[i] := by simp [Array.getD_eq_getD_getElem?, Array.getElem?_append, hc]
        rw [e1]
        show VAt w g _ _ ((cargs ++ Array.replicate (fn.ntmps - cargs.size) undef).getD i undef)
        rw [e2]
        exact .inl (VAt.of (p := .slot D i) hr).demote
      · have e1 : (args.map V.demote).getD i .top = .top := by simp [List.getD, hi]
        rw [e1]; exact .inl (.top _)
  refine Go.wp_mono (wp_sound ht hm (w0 := w) (g0 := g) c _ _ w g _ h (.inr ⟨_, rfl, Nat.le_refl _⟩) ⟨hf, hh, Ext.refl _ _ _⟩ hwp) fun e a w1 hq => ?_
  obtain ⟨e', g1, env1, h1, he, hq, hs⟩ := hq
  obtain ⟨⟨Ds, hds, hnd, hmk⟩, -⟩ := hs.f.defers
  have fin : retQ ty fn.results.toList trunc h Q .ret env1 h1 → LeavesInM Fence.wide 0 P fn a.tmps (CallPost D w g Q) a.defers .returning w1 := fun hq => by
    rw [hds]
    refine leaves_marks (h := h1) (fun b hb => by cases hb; exact Nat.le_refl _) (by simp) (fun w2 hv2 hc2 hh2 hx2 => ?_) Ds w1 (fun h => h) (Cov.refl _ _ _) hs.h hs.x hnd hmk
    have hf2 : @FRel noDefers D fn.ntmps { a with defers := [] } w2 g1 env1 := @FRel.mk noDefers _ _ _ _ _ _ hs.f.size (fun i => hv2 (hs.f.slot i)) ⟨⟨[], rfl, .nil, by simp⟩, fun _ e => by cases e⟩
    exact @ret_done P ty noDefers ht _ _ _ _ _ { a with defers := [] } _ _ _ _ _ _ _ hh hf2 hh2 hx2 hq
  cases e' <;> cases e <;> simp only [ExRel] at he
  case normal.normal => exact fin hq
  case ret.ret => exact fin hq
  case panic.panic v ch =>
    obtain ⟨u, rfl, hv⟩ := he
    show LeavesInM Fence.wide 0 P fn a.tmps (CallPost D w g Q) a.defers (.panicking [{ v := u, recovered := false }]) w1
    rw [hds]
    refine leaves_marks (h := h1) (fun b hb => by cases hb; exact Nat.le_refl _) (by simp) (fun w2 hv2 hc2 hh2 hx2 => ?_) Ds w1 (fun h => h) (Cov.refl _ _ _) hs.h hs.x hnd hmk
    replace hv := hv.mono hc2
    simp only [retQ] at hq
    split at hq
    · obtain ⟨hl, hc, ho, hQ⟩ := hq
      obtain ⟨x1, x2⟩ := leave_sound hh hh2 hx2 hl ho
      exact ⟨_, _, x1, x2, .inr ⟨v, u, rfl, hQ, hv.trunc (leave_le hh2) hc⟩⟩
    · exact ⟨g1, h1, hx2, hh2, .inr ⟨v, u, rfl, hq, hv⟩⟩
  all_goals (simp only [retQ] at hq)

/-- A region in the text's order, up to a place. -/
theorem evalOps_sound2 [DS] (ht : TyTab P ty) {w0 : World} {g0 : Gh} {ops : List Oper} {Kc : Env → H → Prop} {X : V → Env → H → Prop} {Q : Exit → Act → World → Prop} {more : List Oper}
    (hK : ∀ a w g env h, St d n w0 g0 a w g env h → Kc env h → wpList P ops.toArray Q more a w) (hX : ∀ a w g env h v u, St d n w0 g0 a w g env h → X v env h → VRel w g.F g.ι v u → Q (.panic [{ v := u, recovered := false }]) a w) :
    ∀ (l : List Oper) (a : Act) (w : World) (g : Gh) (env : Env) (h : H), St d n w0 g0 a w g env h → evalOps ty (Sound P) n tk ops l Kc X env h → wpList P ops.toArray Q (l ++ more) a w
  | [], a, w, g, env, h, hs, hr => hK a w g env h hs hr
  | o :: os, a, w, g, env, h, hs, hr => by
    have := runOp_sound ht (Q := Q) (next := wpList P ops.toArray Q (os ++ more)) (fun a w g env h hs hk => evalOps_sound2 ht hK hX os a w g env h hs hk) hX hs hr
    rw [List.cons_append]
    unfold wpList
    split
    · rename_i hw; rw [if_pos hw] at this; exact .inl this
    · rename_i hw; rw [if_neg hw] at this; exact this
theorem lastDefer_spec : ∀ {l os : List Oper} {f : Operand}, lastDefer l = some (os, f) → ∃ o, l = os ++ [o] ∧ defOp o = some f
  | [], os, f, h => by cases h
  | [o], os, f, h => by
    simp only [lastDefer, Option.map_eq_some_iff, Prod.mk.injEq] at h
    obtain ⟨f', h1, rfl, rfl⟩ := h
    exact ⟨o, rfl, h1⟩
  | o :: o2 :: r, os, f, h => by
    simp only [lastDefer, Option.map_eq_some_iff] at h
    obtain ⟨⟨l, f'⟩, h1, h2⟩ := h
    simp only [Prod.mk.injEq] at h2
    obtain ⟨rfl, rfl⟩ := h2
    obtain ⟨o', h3, h4⟩ := lastDefer_spec (l := o2 :: r) h1
    exact ⟨o', by rw [h3]; rfl, h4⟩
/-- Where a code in which a call is deferred ends. -/
def QD2 (D n : Nat) (w0 : World) (g0 : Gh) (Q : PostX) (QD : FuncId → List V → PostX) (e : Exit) (a : Act) (w : World) : Prop :=
  QC D n w0 g0 Q e a w ∨ ∃ k cap cap' wd gd, LRel wd gd.F gd.ι cap (Array.toList cap') ∧ Ext D w0 g0 wd gd ∧ @QC { ds := [{ target := .fn (.func k) cap', args := #[] }] } D n wd gd (QD k cap) e a w
theorem wpD_sound [SortOK P] (ht : TyTab P ty) (hm : P.follows .mixedOrders = true) {w0 : World} {g0 : Gh} : ∀ (c : Code) (Q : PostX) (QD : FuncId → List V → PostX) (a : Act) (w : World) (g : Gh) (env : Env) (h : H), noRangeC c = true →
    St d n w0 g0 a w g env h → wpD ty (Sound P) n keep tk c Q QD env h → c.wp P (QD2 d n w0 g0 Q QD) a w
  | .seq x y, Q, QD, a, w, g, env, h, hnr, hs, hr => by
    simp only [noRangeC, Bool.and_eq_true] at hnr
    obtain ⟨hnx, hny⟩ := hnr
    have rest : wp ty (Sound P) n keep tk x (thenQ (wpD ty (Sound P) n keep tk y Q QD) Q) env h → (Code.seq x y).wp P (QD2 d n w0 g0 Q QD) a w := fun hr => by
      refine wp_seq (Go.wp_mono (wp_sound ht hm x _ a w g env h (.inl hnx) hs hr) fun e a w hq => ?_)
      obtain ⟨e', g, env, h, he, hq, hs⟩ := hq
      have he0 := he
      cases e' <;> cases e <;> simp only [ExRel] at he <;> simp only [thenQ] at hq <;> simp only [Exit.then]
      case normal.normal => exact wpD_sound ht hm y Q QD _ _ _ _ _ hny hs hq
      all_goals exact .inl ⟨_, g, env, h, he0, hq, hs⟩
    cases x with
    | region id ops draw =>
      cases draw with
      | true => simp only [wpD] at hr; exact rest hr
      | false =>
        simp only [wpD] at hr
        cases hl : lastDefer ops.toList with
        | none => rw [hl] at hr; exact rest hr
        | some q =>
          obtain ⟨os, f⟩ := q
          rw [hl] at hr
          obtain ⟨o, hops, hdo⟩ := lastDefer_spec hl
          have hod : (∃ ts, o.op = .defer { callee := .value f, args := #[], argTypes := ts }) ∧ o.guard = none ∧ o.dst = none := by
            unfold defOp at hdo
            split at hdo
            · rename_i f' ts h1 h2 h3
              injection hdo with hdo
              subst hdo
              exact ⟨⟨ts, h1⟩, h2, h3⟩
            · cases hdo
          obtain ⟨⟨ts, hop⟩, hg, hdst⟩ := hod
          refine wp_seq (wp_region_list ?_)
          have := evalOps_sound2 (Q := Exit.then (y.wp P (QD2 d n w0 g0 Q QD)) (QD2 d n w0 g0 Q QD)) ht (w0 := w0) (g0 := g0) (more := [o]) (fun a w g env h hs hk => ?_) (fun a w g env h v u hs hk hv => ?_) os a w g env h hs hr
          · rw [← hops] at this
            simpa using this
          · obtain ⟨k, cap, hev, hw⟩ := hk
            have hfo := ev_rel (ty := ty) hs.f 0 f
            rw [hev] at hfo
            generalize hu : a.eval f = u at hfo
            cases hfo with
            | func _ _ _ fa ca hfl hcl hfr hcr =>
              have hfa : fa = #[] := Array.eq_empty_of_size_eq_zero (by simpa using hfl.symm)
              subst hfa
              have hrun : (execOp a.eval o).run P w = .ok (.defer { target := .fn (.func k) ca, args := #[] }) w := by
                simp [execOp, hop, resolve, hu, Deferred.ofValue]
              unfold wpList
              rw [if_pos (by simp [Region.wanted, hg])]
              left
              unfold Oper.wp Oper.upon
              rw [hrun, hdst]
              have hdf := hs.f.defers.none rfl
              have hsl := (hs.f.keep keep).slot
              have hsz := hs.f.size
              have hh0 := hs.h
              have hx0 := hs.x
              show y.wp P (QD2 d n w0 g0 Q QD) { a with defers := { target := .fn (.func k) ca, args := #[] } :: a.defers } w
              have hst : @St { ds := [{ target := .fn (.func k) ca, args := #[] }] } d n w g ({ a with defers := { target := .fn (.func k) ca, args := #[] } :: a.defers } : Act) w g (env.keep keep) h :=
                @St.mk { ds := [{ target := .fn (.func k) ca, args := #[] }] } _ _ _ _ _ _ _ _ _ (@FRel.mk { ds := [{ target := .fn (.func k) ca, args := #[] }] } _ _ _ _ _ _ hsz hsl ⟨⟨[], by rw [hdf]; rfl, .nil, by simp⟩, fun _ e => by cases e⟩) hh0 (Ext.refl _ _ _)
              refine Go.wp_mono (@wp_sound P ty tk keep n { ds := [{ target := .fn (.func k) ca, args := #[] }] } d _ ht hm w g y (QD k cap) _ w g _ h (.inl hny) hst hw) fun e a w1 hq => .inr ⟨k, cap, ca, w, g, ⟨by simpa using hcl, fun i c u hc hu => hcr i c u hc (by simpa using hu)⟩, hx0, hq⟩
          · exact .inl ⟨.panic v, g, env, h, ⟨u, rfl, hv⟩, hk, hs⟩
    | _ => simp only [wpD] at hr; exact rest hr
  | .skip, Q, QD, a, w, g, env, h, hnr, hs, hr | .label _, Q, QD, a, w, g, env, h, hnr, hs, hr | .region _ _ _, Q, QD, a, w, g, env, h, hnr, hs, hr | .cond _ _ _, Q, QD, a, w, g, env, h, hnr, hs, hr | .block _ _, Q, QD, a, w, g, env, h, hnr, hs, hr
  | .loop _, Q, QD, a, w, g, env, h, hnr, hs, hr | .rangeFunc _ _ _ _, Q, QD, a, w, g, env, h, hnr, hs, hr | .exit _, Q, QD, a, w, g, env, h, hnr, hs, hr | .scope _, Q, QD, a, w, g, env, h, hnr, hs, hr | .goto _, Q, QD, a, w, g, env, h, hnr, hs, hr
  | .ret, Q, QD, a, w, g, env, h, hnr, hs, hr | .refuse _, Q, QD, a, w, g, env, h, hnr, hs, hr => by
    simp only [wpD] at hr
    exact Go.wp_mono (wp_sound ht hm _ Q a w g env h (.inl hnr) hs hr) fun e a w1 hq => .inl hq
theorem callsD_mono {k : FuncId} {args : Array Value} {u : FrameMode} {w : World} {R R' : Ending → FrameMode → World → Prop} (hc : CallsD P k args u w R) (h : ∀ e u' w', R e u' w' → R' e u' w') : CallsD P k args u w R' := fun c cs hu =>
  let ⟨e, u', w', fr, hr, rest⟩ := hc c cs hu
  ⟨e, u', w', fr, h _ _ _ hr, rest⟩
/-- A call of a function that defers a closure. -/
theorem bodyD_sound [SortOK P] (ht : TyTab P ty) (hm : P.follows .mixedOrders = true) {f : FuncId} {args : List V} {Q : Out → H → Prop} (hb : bodyD P ty (Sound P) f args h Q) : Sound P f args h Q := by
  obtain ⟨fn, c, keep, tk, trunc, hfn, hname, hbody, ⟨hlen, hnr⟩, hwp⟩ := hb
  refine Sound.of_fn hfn ⟨⟨fn, hfn, by rw [hbody]; rfl, hname⟩, fun D w g cargs hh hargs => calls_of_wp_defers hfn hbody ?_⟩
  have hf := init_frel (D := D) (keep := keep) hlen hargs
  refine Go.wp_mono (wpD_sound ht hm (w0 := w) (g0 := g) c _ _ _ w g _ h hnr ⟨hf, hh, Ext.refl _ _ _⟩ hwp) fun e a w1 hq => ?_
  rcases hq with ⟨e', g1, env1, h1, he, hq, hs⟩ | ⟨k, cap, cap', wd, gd, hrel, hxd, e', g1, env1, h1, he, hq, hs⟩
  · have hd : a.defers = [] := hs.f.defers.none rfl
    have fin : retQ ty fn.results.toList trunc h Q .ret env1 h1 → Leaves P fn a.tmps (CallPost D w g Q) a.defers .returning w1 := fun hq => by
      rw [hd]
      exact ret_done ht hh hs.f hs.h hs.x hq
    cases e' <;> cases e <;> simp only [ExRel] at he
    case normal.normal => exact fin hq
    case ret.ret => exact fin hq
    case panic.panic v ch =>
      obtain ⟨u, rfl, hv⟩ := he
      show Leaves P fn a.tmps (CallPost D w g Q) a.defers (.panicking [{ v := u, recovered := false }]) w1
      rw [hd]
      simp only [retQ] at hq
      split at hq
      · obtain ⟨hl, hc, ho, hQ⟩ := hq
        obtain ⟨x1, x2⟩ := leave_sound hh hs.h hs.x hl ho
        exact ⟨_, _, x1, x2, .inr ⟨v, u, rfl, hQ, hv.trunc (leave_le hs.h) hc⟩⟩
      · exact ⟨g1, h1, hs.x, hs.h, .inr ⟨v, u, rfl, hq, hv⟩⟩
    all_goals (simp only [retQ] at hq)
  · letI dsI : DS := { ds := [{ target := .fn (.func k) cap', args := #[] }] }
    have hd : a.defers = [{ target := .fn (.func k) cap', args := #[] }] := hs.f.defers.none rfl
    have fin : ∀ {pv : V} {u : FrameMode}, u ≠ .run → ((pv = .nili ∧ u = .returning) ∨ ∃ uu, u = .panicking [{ v := uu, recovered := false }] ∧ VRel w1 g1.F g1.ι pv uu) → closeC P ty (Sound P) k cap pv h1 (retQ ty fn.results.toList trunc h Q .ret env1) → Leaves P fn a.tmps (CallPost D w g Q) a.defers u w1 := fun hne hu hq => by
      rw [hd]
      obtain ⟨⟨fk, hfk, hbk, hnk⟩, hcd⟩ := close_sound ht hm (D := D + 1) hq hs.h (hrel.mono hs.x.cov) hu
      refine ⟨hne, .func k, cap', k, cap', rfl, ?_, callsD_mono hcd fun e u' w' hr => ?_⟩
      · have hb2 : ¬ fk.body = none := by cases hb : fk.body <;> simp [hb] at hbk ⊢
        have hn2 : ¬ fk.name = "runtime.NumGoroutine" := by simpa using hnk
        simp [invoke, callFunc, hfk, hn2, hb2]
      · obtain ⟨⟨x, rfl⟩, hset, g', h', hx', hh', hk'⟩ := hr
        simp only [hset]
        exact ret_done ht hh (hs.f.ext hx' (Nat.lt_succ_self D) hs.h.apart) hh' ((hxd.trans hs.x).trans (hx'.up (Nat.le_succ D))) hk'
    cases e' <;> cases e <;> simp only [ExRel] at he
    case normal.normal => exact fin (by simp) (.inl ⟨rfl, rfl⟩) hq
    case ret.ret => exact fin (by simp) (.inl ⟨rfl, rfl⟩) hq
    case panic.panic v ch =>
      obtain ⟨u, rfl, hv⟩ := he
      exact fin (by simp) (.inr ⟨u, rfl, hv⟩) hq
    all_goals exact hq.elim

theorem VRel.flatV {w w' : World} {F F' : Nat → Nat} {ι ι' : List Nat} {v : V} {u : Value} (hf : V.Flat v) (h : VRel w F ι v u) : VRel w' F' ι' v u := by
  induction hf generalizing u with
  | bool b => cases h; exact .bool _
  | int k n => cases h; exact .int _ _
  | str l => cases h with | str s _ h => exact .str s _ h
  | agg xs hx ih => cases h with | agg _ ca hl hr => exact .agg _ _ hl fun k c u hc hu => ih c (List.mem_of_getElem? hc) (hr k c u hc hu)
  | tup xs hx ih => cases h with | tup _ ca hl hr => exact .tup _ _ hl fun k c u hc hu => ih c (List.mem_of_getElem? hc) (hr k c u hc hu)
theorem V.Flat.demote {v : V} (h : V.Flat v) : v.demote = v := by cases h <;> rfl
/-- What stands in a row that nothing covers, where all is covered. -/
theorem pri_whole {F' : Nat → Nat} {p : Place} {u u0 : Value} {e sz : Nat} {xs : List V} (hv : VAt w g p (.pri (some u) e sz xs) u0) (hF : ∀ b, g.F b ≤ F' b) (hS : ∀ b c e fr, w.heap[b]? = some (.cells c e fr) → c.size ≤ F' b) (hc : V.Cl 0 (.sl sz xs)) :
    u0 = u ∧ VRel w F' [] (.sl sz xs) u := by
  rcases hv with hv | ⟨pr', e', sz', xs', b, off, cap, cur, vals, he, hu, hb, hcap, hmx, hcs, htk, hvl, hsz, hw, h1, hr, hFb, hO, htag⟩
  · cases hv with | pri0 _ _ _ _ ho => have := ho u rfl; subst this; exact ⟨rfl, .sl0 _ _ _⟩
  · cases pr' with
    | none => simp only [rowV] at he; cases he
    | some o' =>
      simp only [rowV, V.pri.injEq] at he
      obtain ⟨rfl, rfl, rfl, rfl⟩ := he
      have hu0 := htag _ _ rfl rfl
      subst hu0
      refine ⟨rfl, ?_⟩
      subst hu
      cases hc with
      | sl _ _ hcx =>
        have hL : LRel w F' [] (xs.flatMap V.cells) vals := by
          refine ⟨hr.1, fun k c u hk hu => ?_⟩
          obtain ⟨x, hx, hcm⟩ := List.mem_flatMap.1 (List.mem_of_getElem? hk)
          have := (hr.2 k c u hk hu).trunc (F' := F') hF ((hcx x hx).cells c hcm)
          simpa using this
        refine .sl sz xs b off _ cap vals rfl hcap hsz hw hvl ?_ (fun k u hk => ?_) h1 hL.2
        · have h2 := hS b cur _ _ hb
          have h3 : xs.length * sz ≤ cap * sz := Nat.mul_le_mul_right _ hcap
          omega
        · rw [← htk, List.getElem?_take] at hk
          split at hk
          · rw [List.getElem?_drop] at hk
            simp only [World.cell?, hb]
            simpa using hk
          · cases hk
/-- A call that is lent rows: nothing that is there turns. -/
theorem lend_sound {f : FuncId} {args : List V} {Q : Out → H → Prop} (hb : lend (Sound P) f args h Q) : Sound P f args h Q := by
  obtain ⟨args', v, hlen, hlent, hcl, hfl, ⟨hso, hsi⟩, hq⟩ := hb
  refine ⟨fun hlt => ?_, fun hge => by obtain ⟨_, _, he, _⟩ := hsi hge; cases he⟩
  obtain ⟨hfn, hs⟩ := hso hlt
  refine ⟨hfn, fun D w g cargs hh hargs => ?_⟩
  let F' : Nat → Nat := fun x => max (g.F x) (match w.heap[x]? with | some (.cells c _ _) => c.size | _ => 0)
  let g0 : Gh := { F := F', ι := [], O := fun _ => none }
  have hF : ∀ b, g.F b ≤ F' b := fun b => Nat.le_max_left _ _
  have hS : ∀ b c e fr, w.heap[b]? = some (.cells c e fr) → c.size ≤ F' b := fun b c e fr hb => by
    show c.size ≤ max _ _
    rw [hb]; exact Nat.le_max_right _ _
  have hh0 : HRel w g0 [] := by
    refine ⟨rfl, by simp [g0], fun id o b ho => by simp at ho, fun b hb => by simp [g0] at hb, fun b hb => ⟨?_, rfl⟩, hh.glob.le hF⟩
    show max _ _ = 0
    rw [(hh.fresh b hb).1, Array.getElem?_eq_none hb]; rfl
  have hargs' : LRel w g0.F g0.ι args' cargs.toList := by
    refine ⟨hlen.trans hargs.1, fun i a' u ha' hu => ?_⟩
    have hi : i < args.length := by have := (List.getElem?_eq_some_iff.1 ha').1; omega
    have ha := List.getElem?_eq_getElem hi
    have hau := hargs.2 i _ u ha hu
    have hca := hcl a' (List.mem_of_getElem? ha')
    rcases hlent i _ a' ha ha' with rfl | ⟨u0, e, sz, xs, id, t, cs, j, he, rfl, ho, hj⟩
    · have := hau.trunc (F' := F') hF hca
      simpa using this
    · rw [he] at hau
      cases hau
      have hid : id < g.ι.length := by rw [hh.len]; exact (List.getElem?_eq_some_iff.1 ho).1
      obtain ⟨c, e2, hb, hcs, hcr, _⟩ := hh.obj id _ _ ho (List.getElem?_eq_getElem hid)
      have hjl : j < c.size := Nat.lt_of_lt_of_le (List.getElem?_eq_some_iff.1 hj).1 hcs.1
      exact (pri_whole (F' := F') (hcr j _ _ hj (Array.getElem?_eq_getElem hjl)).1 hF hS hca).2
  refine (hs D w g0 cargs hh0 hargs').mono fun e w' hpost => ?_
  obtain ⟨g', h', hx, hh', hcase⟩ := hpost
  have hG : Grow w g w' g := ⟨hx.os, hx.tape, hx.output, hx.size, fun b hb => ⟨(hx.kept b hb (by simp [g0]) (by simp [g0]) (by simp [g0])).1, rfl, rfl⟩, rfl, fun b hb => hh.fresh b (Nat.le_trans hx.size hb)⟩
  refine ⟨g, h, hG.ext hh, hG.hrel hh, ?_⟩
  rcases hcase with ⟨v', u, i, rfl, hq', hv⟩ | ⟨v', u, rfl, hq', hv⟩
  · injection hq' with hq'
    subst hq'
    refine .inl ⟨_, u, i, rfl, hq, .inl ?_⟩
    have := hv.demote
    rw [hfl.demote] at this
    exact this.flatV hfl
  · cases hq'

/-- Every call. -/
theorem acall_sound [SortOK P] (ht : TyTab P ty) (hm : P.follows .mixedOrders = true) {prim : CallP} (hp : ∀ f args h Q, prim f args h Q → Sound P f args h Q) {f : FuncId} {args : List V} {Q : Out → H → Prop} (hc : ACall P ty prim f args h Q) : Sound P f args h Q :=
  hc (Sound P) fun f args h Q hb => by
    rcases hb with hb | hb | ⟨args', hle, hb⟩ | hb | hb
    · exact body_sound ht hm hb
    · exact hp f args h Q hb
    · refine ⟨fun hlt => ⟨(hb.1 hlt).1, fun D w g cargs hh hargs => (hb.1 hlt).2 D w g cargs hh (LRel.le hle hargs)⟩, fun hge => ?_⟩
      obtain ⟨own, ss, hq, hfn, hl⟩ := hb.2 hge
      exact ⟨own, ss, hq, hfn, fun D w g cargs l J Jx hh hargs => hl D w g cargs l J Jx hh (LRel.le hle hargs)⟩
    · exact lend_sound hb
    · exact bodyD_sound ht hm hb

/-- A call from nothing: what is there stays as it is. -/
theorem acall_top [SortOK P] (ht : TyTab P ty) (hm : P.follows .mixedOrders = true) {prim : CallP} (hp : ∀ f args h Q, prim f args h Q → Sound P f args h Q) {f : FuncId} {args : List V} {b : Bool} (hlt : f < 1000000 := by decide) (hc : ACall P ty prim f args [] fun r _ => r = .ret (.bool b))
    {w : World} {cargs : Array Value} (hglob : ∀ q ∈ globs, ∃ m, w.cell? ⟨q.1, 0, none⟩ = some (.int q.2 m)) (hargs : LRel w (fun x => match w.heap[x]? with | some (.cells c _ _) => c.size | _ => 0) [] args cargs.toList) :
    Calls P f cargs w fun e w' => e = .returned (.bool b) ∧ Go.RowKit.Below w.heap.size w w' := by
  obtain ⟨_, hs⟩ := (acall_sound ht hm hp hc).1 hlt
  let g : Gh := { F := fun x => match w.heap[x]? with | some (.cells c _ _) => c.size | _ => 0, ι := [], O := fun _ => none }
  have hh : HRel w g [] := by
    refine ⟨rfl, by simp [g], fun id o b ho => by simp at ho, fun b hb => by simp [g] at hb, fun b hb => ⟨?_, rfl⟩, fun q hq => ?_⟩
    case refine_2 =>
      obtain ⟨m, hm⟩ := hglob q hq
      refine ⟨?_, m, hm⟩
      show 1 ≤ (match w.heap[q.1]? with | some (.cells c _ _) => c.size | _ => 0)
      unfold World.cell? at hm
      cases hb : w.heap[q.1]? with
      | none => rw [hb] at hm; simp at hm
      | some o =>
        rw [hb] at hm
        cases o <;> simp at hm
        case cells c e fr =>
          simp only []
          rcases Nat.lt_or_ge 0 c.size with h | h
          · exact h
          · simp [Array.getElem?_eq_none h] at hm
    simp [g, Array.getElem?_eq_none hb]
  refine (hs 0 w g cargs hh hargs).mono fun e w' hp => ?_
  obtain ⟨g', h', hx, hh', hcase⟩ := hp
  rcases hcase with ⟨v, u, i, rfl, hq, hv⟩ | ⟨v, u, rfl, hq, hv⟩
  · injection hq with hq
    subst hq
    refine ⟨?_, ⟨hx.os, hx.tape, hx.output, hx.size, fun b hb => (hx.kept b hb (by simp [g]) (by simp [g]) (by simp [g])).1⟩⟩
    have := VRel.bool_inv (hv.demote)
    rw [this]
  · cases hq

end
end Go.Proofs.YtmjohmefhikelaaDoor.Pv
