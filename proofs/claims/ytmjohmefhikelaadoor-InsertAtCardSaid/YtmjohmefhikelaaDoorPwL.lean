/- The pure evaluator, part L: every operation. -/
import Derived.Test.YtmjohmefhikelaaDoorPwK
set_option linter.unusedVariables false
set_option linter.unusedSimpArgs false
namespace Go.Proofs.YtmjohmefhikelaaDoor.Pv
open Go
variable [DS]

section
variable {P : Program} {ty : Nat → Ty} {tk : List Nat} {d n : Nat} {a : Act} {w : World} {g : Gh} {env : Env} {h : H}

/-- What the table of types must be. -/
structure TyTab (P : Program) (ty : Nat → Ty) : Prop where
  ok : ∀ t, TyOK P t (ty t)
  fields : ∀ t fs, (ty t).k = .struct fs → ∀ f ∈ fs, ∃ i, P.info? f.2 = some i

omit [DS] in
theorem exec_v {o : Oper} {s : Sem Value} {u : Value} (he : execOp a.eval o = (do Pure.pure (Next.value (← s)) : Sem Next)) (hr : s.run P w = .ok u w) : (execOp a.eval o).run P w = .ok (.value u) w := by
  rw [he]; simp only [Sem.run_bind, hr, Result.andThen_ok, Sem.run_pure]

theorem ORelO_map (hf : FRel d n a w g env) (x : Option Operand) : ORelO w g (x.map (ev ty env 0)) (x.map a.eval) := by
  cases x with
  | none => exact trivial
  | some x => exact ev_rel hf 0 x

omit [DS] in
theorem complex_eq {ts : Array TypeId} {r : TypeId} {k : FloatKind} {m m' : Nat} : Builtin.complex_ ts r #[.float k m, .float k m'] = pure (.complex k m m') := by
  have h : Builtin.complex_ ts r #[.float k m, .float k m'] = (if k = k then pure (.complex k m m') else stuck "complex: parts of different kinds") := rfl
  rw [h, if_pos rfl]
omit [DS] in
theorem real_eq {ts : Array TypeId} {r : TypeId} {k : FloatKind} {m m' : Nat} : Builtin.real_ ts r #[.complex k m m'] = pure (.float k m) := rfl
omit [DS] in
theorem imag_eq {ts : Array TypeId} {r : TypeId} {k : FloatKind} {m m' : Nat} : Builtin.imag_ ts r #[.complex k m m'] = pure (.float k m') := rfl
theorem append_op (ht : TyTab P ty) (hf : FRel d n a w g env) (hh : HRel w g h) {o : Oper} {t s : Nat} {b0 xv : V} {u xu : Value} {p : Prop} {v : V} {env1 : Env}
    {t' : Nat} (hat : appT ty t t' xv = true) (hop : execOp a.eval o = (do Pure.pure (Next.value (← Builtin.append_ #[t, t'] o.type #[u, xu])) : Sem Next)) (hr : append ty t b0 xv = .ok p v) (hp : p)
    (hu : VAt w g (.slot d s) b0 u) (hx : VRel w g.F g.ι xv xu) (henv : env1 = env.put s (env.get s).demote ∨ (env1 = env ∧ ∀ b m c, u ≠ .slice (some b) m c)) : OpDone P d n o a w g v env1 h := by
  unfold append at hr
  split at hr
  · rename_i e e' sz xs sz' ys hkt
    simp only [R1.ok.injEq] at hr
    obtain ⟨rfl, rfl⟩ := hr
    obtain ⟨⟨rfl, h2⟩, ⟨h3, h4⟩, h5⟩ := hp
    have hat := eq_of_beq (show (t == t') = true from hat)
    subst hat
    refine append_done none ht.ok hf hh hkt rfl hop hu hx ?_ h2 h3 h4 h5
    rcases henv with h | ⟨h, hn⟩
    · exact .inl h
    · refine .inr ⟨h, ?_⟩
      rcases own_row (pr := none) hu with ⟨a0, h1, _⟩ | ⟨b, off, cap, cur, vals, h1, _⟩
      · rw [h1]; cases a0 with | none => rfl | some a0 => exact absurd h1 (hn _ _ _)
      · exact absurd h1 (hn _ _ _)
  · rename_i e sz xs sz' ys hkt
    simp only [R1.ok.injEq] at hr
    obtain ⟨rfl, rfl⟩ := hr
    obtain ⟨h2, ⟨h3, h4⟩, hys, h5⟩ := hp
    have hat := eq_of_beq (show (t == t') = true from hat)
    subst hat
    have hu' : VRel w g.F g.ι (.cap sz xs) u := by
      rcases hu with hu | ⟨pr, _, _, _, _, _, _, _, _, he, _⟩
      · exact hu
      · cases pr <;> cases he
    refine append_cap ht.ok hf hh hkt rfl hop hu' hx ?_ h2 h3 h4 hys h5
    rcases henv with rfl | ⟨rfl, _⟩
    · exact ⟨hf.size, fun j => by
        rw [Env.get_put]
        by_cases hj : j = s
        · subst hj; rw [if_pos rfl]; exact .inl (hf.slot j).demote
        · rw [if_neg hj]; exact hf.slot j, hf.defers⟩
    · exact hf
  · rename_i e e' sz xs e2 sz2 hkt
    simp only [R1.ok.injEq] at hr
    obtain ⟨rfl, rfl⟩ := hr
    obtain ⟨rfl, h2, h3⟩ := hp
    have hat := eq_of_beq (show (t == t') = true from hat)
    subst hat
    cases hx
    have := append_done none ht.ok hf hh (ys := []) hkt rfl hop hu (VRel.sl0 (ty e').size none 0) (by
      rcases henv with h | ⟨h, hn⟩
      · exact .inl h
      · refine .inr ⟨h, ?_⟩
        rcases own_row (pr := none) hu with ⟨a0, h1, _⟩ | ⟨b, off, cap, cur, vals, h1, _⟩
        · rw [h1]; cases a0 with | none => rfl | some a0 => exact absurd h1 (hn _ _ _)
        · exact absurd h1 (hn _ _ _)) h2.1 rfl h2.2 h3
    simpa [rowV] using this
  · rename_i e o' e' sz xs sz' ys hkt
    simp only [R1.ok.injEq] at hr
    obtain ⟨rfl, rfl⟩ := hr
    obtain ⟨⟨rfl, h2⟩, ⟨h3, h4⟩, h5⟩ := hp
    have hat := eq_of_beq (show (t == t') = true from hat)
    subst hat
    refine append_done (some o') ht.ok hf hh hkt rfl hop hu hx ?_ h2 h3 h4 h5
    rcases henv with h | ⟨h, hn⟩
    · exact .inl h
    · refine .inr ⟨h, ?_⟩
      rcases own_row (pr := some o') hu with ⟨a0, h1, _⟩ | ⟨b, off, cap, cur, vals, h1, _⟩
      · rw [h1]; cases a0 with | none => rfl | some a0 => exact absurd h1 (hn _ _ _)
      · exact absurd h1 (hn _ _ _)
  · rename_i e e' sz xs x hkt
    simp only [R1.ok.injEq] at hr
    obtain ⟨rfl, rfl⟩ := hr
    obtain ⟨⟨rfl, h2⟩, ⟨h3, h4⟩, h5⟩ := hp
    have hat' : P.underlying t' = some .string := by
      have hk := (ht.ok t').k
      unfold appT at hat
      simp only [] at hat
      split at hat
      · rename_i hs
        rw [hs] at hk
        exact hk
      · cases hat
    refine append_text ht.ok hf hh hkt hat' hop hu hx ?_ h2 h3 h4 h5
    rcases henv with h | ⟨h, hn⟩
    · exact .inl h
    · refine .inr ⟨h, ?_⟩
      rcases own_row (pr := none) hu with ⟨a0, h1, _⟩ | ⟨b, off, cap, cur, vals, h1, _⟩
      · rw [h1]; cases a0 with | none => rfl | some a0 => exact absurd h1 (hn _ _ _)
      · exact absurd h1 (hn _ _ _)
  · cases hr

theorem cut_row (ht : TyTab P ty) (hf : FRel d n a w g env) (hh : HRel w g h) {o : Oper} {t i e k : Nat} {hi : Option V} {hu : Option Value} {q : Prop} {sz : Nat} {xs : List V} (pr : Option (Option Value)) (hpr : pr = none → xs = [])
    (hop : ∀ u, (Instr.sliceAt t (a.eval (.tmp i)) none hu none).run P w = .ok u w → (execOp a.eval o).run P w = .ok (.value u) w) (hk : (ty t).k = .slice e) (hslot : env.get i = rowV pr e sz xs) (hb : hiB hi xs.length = some (q, k)) (hq : q) (hhi : ORelO w g hi hu) (hsz : sz = (ty e).size) (hpos : 0 < sz) :
    OpDone P d n o a w g (rowV (pr.map fun _ => none) e sz (xs.take k)) (env.put i .top) h := by
  have hku := (ht.ok t).k
  rw [hk] at hku
  have hku : P.underlying t = some (.slice e) := hku
  have hso := run_sizeOf' ht.ok (t := e) (by omega) w
  have hbd : bounds none hi xs.length = some (q ∧ True, 0, k) := by simp [bounds, hb, loB]
  have hv : VAt w g (.slot d i) (rowV pr e sz xs) (a.eval (.tmp i)) := by rw [← hslot]; exact hf.slot i
  have hfe : ∀ (u : Value), FRel d n a w (g.move (.slot d i) (.slot d (o.dst.getD i)) u) (env.put i .top) := fun u => ⟨hf.size, fun j => by
    rw [Env.get_put]
    by_cases hj : j = i
    · rw [if_pos hj]; exact .inl (.top _)
    · rw [if_neg hj]; exact (hf.slot j).stays (fun e => hj (by injection e)), hf.defers.move⟩
  rcases hv with hv | ⟨pr', e', sz', xs', b, off, cap, cur, vals, he, hu', hb', hcap, hmx, hcs, htk, hvl, hszp, hw, h1, hr, hF, hO, htag⟩
  · have hn : ∃ a0, a.eval (.tmp i) = .slice a0 0 0 ∧ xs = [] := by
      cases pr with
      | none => simp only [rowV] at hv; revert hv; generalize a.eval (.tmp i) = y; intro hv; cases hv; exact ⟨_, rfl, rfl⟩
      | some o' => simp only [rowV] at hv; revert hv; generalize a.eval (.tmp i) = y; intro hv; cases hv; exact ⟨_, rfl, rfl⟩
    obtain ⟨a0, hu0, rfl⟩ := hn
    obtain ⟨h1, h2, h3⟩ := sliceBounds_run (P := P) (w := w) (g := g) (lo := none) (lu := none) trivial hhi (Nat.le_refl 0) hbd ⟨hq, trivial⟩ true
    obtain rfl : k = 0 := by simpa using h3
    refine ⟨.slice a0 0 0, w, g.move (.slot d i) (.slot d (o.dst.getD i)) (.slice a0 0 0), .inl (hop _ ?_), move_ext g w _ (.inl rfl), hh.moved (by simp), hfe _, fun j hj => .inl ?_⟩
    · rw [hu0]; simp [Instr.sliceAt, Instr.slice, underlying, hku, h1, hso]
    · cases pr with
      | none => exact .own0 _ _ _
      | some o' => exact .pri0 _ _ _ _ (by simp)
  · have he' : e' = e ∧ sz' = sz ∧ xs' = xs ∧ rowF pr' (xs'.length * sz') = rowF pr (xs.length * sz) := by
      cases pr with
      | none =>
        cases pr' with
        | none => simp only [rowV, V.own.injEq] at he; obtain ⟨rfl, rfl, rfl⟩ := he; exact ⟨rfl, rfl, rfl, rfl⟩
        | some o' => simp only [rowV] at he; cases he
      | some o =>
        cases pr' with
        | none => simp only [rowV] at he; cases he
        | some o' => simp only [rowV, V.pri.injEq] at he; obtain ⟨_, rfl, rfl, rfl⟩ := he; exact ⟨rfl, rfl, rfl, rfl⟩
    obtain ⟨rfl, rfl, rfl, hFF⟩ := he'
    obtain ⟨h1', h2, h3⟩ := sliceBounds_run (P := P) (w := w) (g := g) (lo := none) (lu := none) trivial hhi hcap hbd ⟨hq, trivial⟩ true
    have hmv : (g.move (.slot d i) (.slot d (o.dst.getD i)) (.slice (some ⟨b, off, none⟩) xs'.length cap)).O b = some (.slot d (o.dst.getD i)) := by
      simp [Gh.move, hO, Gh.own]
    have hlen : (xs'.take k).length = k := by rw [List.length_take]; omega
    refine ⟨.slice (some ⟨b, off, none⟩) k cap, w, g.move (.slot d i) (.slot d (o.dst.getD i)) (.slice (some ⟨b, off, none⟩) xs'.length cap), .inl (hop _ ?_), move_ext g w _ (.inl rfl), hh.moved (by simp), hfe _, fun j hj => .inr ?_⟩
    · rw [hu']
      simp only [Instr.sliceAt, Instr.slice, underlying, Sem.run_bind]
      simp [hku, h1', hso, Addr.add_lit]
    · have hd : o.dst.getD i = j := by rw [hj]; rfl
      rw [← hd]
      have hks : k * sz' ≤ vals.length := by rw [hvl]; exact Nat.mul_le_mul_right _ h3
      refine ⟨pr.map fun _ => none, e', sz', xs'.take k, b, off, cap, cur, vals.take (k * sz'), rfl, by rw [hlen], hb', by rw [hlen]; omega, hmx, hcs, ?_, by rw [hlen, List.length_take]; omega, hszp, fun x hx => hw x (List.mem_of_mem_take hx), fun u hu => h1 u (List.mem_of_mem_take hu), ?_, ?_, hmv, fun o' u' ho hu2 => by cases pr <;> simp at ho; subst ho; cases hu2⟩
      · rw [hlen, ← htk, List.take_take, Nat.min_eq_left (Nat.mul_le_mul_right _ h3)]
      · rw [flatMap_take hw k]
        exact (by rw [Gh.move_F, Gh.move_ι]; exact hr.take _)
      · rw [Gh.move_F, hF, hFF, rowF_map, hlen]
        congr 1
        cases pr with
        | none => have := hpr rfl; subst this; simp at h3; subst h3; rfl
        | some o' => rfl
/-- An owned row, cut at its front. -/
theorem cut_front (ht : TyTab P ty) (hf : FRel d n a w g env) (hh : HRel w g h) {o : Oper} {t i e sz : Nat} {l : Int} {k : IntKind} {lu : Value} {xs : List V}
    (hop : ∀ u, (Instr.sliceAt t (a.eval (.tmp i)) (some lu) none none).run P w = .ok u w → (execOp a.eval o).run P w = .ok (.value u) w) (hk : (ty t).k = .slice e) (hslot : env.get i = .own e sz xs) (hb : 0 ≤ l ∧ l ≤ xs.length) (hlo : VRel w g.F g.ι (.int k l) lu) (hsz : sz = (ty e).size) (hpos : 0 < sz) :
    OpDone P d n o a w g (.own e sz (xs.drop l.toNat)) (env.put i .top) h := by
  have hku := (ht.ok t).k
  rw [hk] at hku
  have hku : P.underlying t = some (.slice e) := hku
  have hso := run_sizeOf' ht.ok (t := e) (by omega) w
  have hbd : bounds (some (.int k l)) none xs.length = some (True ∧ (0 ≤ l ∧ l ≤ xs.length), l.toNat, xs.length) := by simp [bounds, hiB, loB]
  have hv : VAt w g (.slot d i) (rowV none e sz xs) (a.eval (.tmp i)) := by have := hf.slot i; rw [hslot] at this; exact this
  have hfe : ∀ (u : Value), FRel d n a w (g.move (.slot d i) (.slot d (o.dst.getD i)) u) (env.put i .top) := fun u => ⟨hf.size, fun j => by
    rw [Env.get_put]
    by_cases hj : j = i
    · rw [if_pos hj]; exact .inl (.top _)
    · rw [if_neg hj]; exact (hf.slot j).stays (fun e => hj (by injection e)), hf.defers.move⟩
  rcases own_row hv with ⟨a0, hu0, rfl⟩ | ⟨b, off, cap, cur, vals, hu', hb', hcap, hmx, hcs, htk, hvl, hszp, hw, h1, hr, hF, hO⟩
  · obtain ⟨h1, h2, h3⟩ := sliceBounds_run (P := P) (w := w) (g := g) (lo := some (.int k l)) (lu := some lu) (hi := none) (hu := none) hlo trivial (Nat.le_refl 0) hbd ⟨trivial, hb⟩ true
    have hl0 : l.toNat = 0 := by simp at h2; omega
    rw [hl0] at h1
    refine ⟨.slice a0 0 0, w, g.move (.slot d i) (.slot d (o.dst.getD i)) (.slice a0 0 0), .inl (hop _ ?_), move_ext g w _ (.inl rfl), hh.moved (by simp), hfe _, fun j hj => .inl ?_⟩
    · rw [hu0]; simp [Instr.sliceAt, Instr.slice, underlying, hku, h1, hso]
    · rw [List.drop_nil]; exact .own0 _ _ _
  · obtain ⟨h1', h2, h3⟩ := sliceBounds_run (P := P) (w := w) (g := g) (lo := some (.int k l)) (lu := some lu) (hi := none) (hu := none) hlo trivial hcap hbd ⟨trivial, hb⟩ true
    generalize hm : l.toNat = m at *
    by_cases hcm : cap = m
    · subst hcm
      have hxe : xs.drop cap = [] := List.drop_eq_nil_of_le (by omega)
      refine ⟨.slice (some ⟨b, off, none⟩) 0 0, w, g.move (.slot d i) (.slot d (o.dst.getD i)) (.slice (some ⟨b, off, none⟩) 0 0), .inl (hop _ ?_), move_ext g w _ (.inl rfl), hh.moved (by simp), hfe _, fun j hj => .inl ?_⟩
      · rw [hu']
        simp only [Instr.sliceAt, Instr.slice, underlying, Sem.run_bind]
        simp [hku, h1', hso, Addr.add_lit, show xs.length - cap = 0 by omega]
      · rw [hxe]; exact .own0 _ _ _
    · have hmv : (g.move (.slot d i) (.slot d (o.dst.getD i)) (.slice (some ⟨b, off, none⟩) xs.length cap)).O b = some (.slot d (o.dst.getD i)) := by
        simp [Gh.move, hO, Gh.own]
      have hlen : (xs.drop m).length = xs.length - m := by rw [List.length_drop]
      have hmul : xs.length * sz = m * sz + (xs.length - m) * sz := by rw [← Nat.add_mul]; congr 1; omega
      have hmul2 : cap * sz = m * sz + (cap - m) * sz := by rw [← Nat.add_mul]; congr 1; omega
      refine ⟨.slice (some ⟨b, off + m * sz, none⟩) (xs.length - m) (cap - m), w, g.move (.slot d i) (.slot d (o.dst.getD i)) (.slice (some ⟨b, off, none⟩) xs.length cap), .inl (hop _ ?_), move_ext g w _ (.inl rfl), hh.moved (by simp), hfe _, fun j hj => .inr ?_⟩
      · rw [hu']
        simp only [Instr.sliceAt, Instr.slice, underlying, Sem.run_bind]
        simp [hku, h1', hso, Addr.add_lit, hcm, hsz]
      · have hd : o.dst.getD i = j := by rw [hj]; rfl
        rw [← hd]
        refine ⟨none, e, sz, xs.drop m, b, off + m * sz, cap - m, cur, vals.drop (m * sz), rfl, by rw [hlen], hb', by rw [hlen]; omega, by omega, by omega, ?_, by rw [hlen, List.length_drop]; omega, hszp, fun x hx => hw x (List.mem_of_mem_drop hx), fun u hu => h1 u (List.mem_of_mem_drop hu), ?_, ?_, hmv, fun o' u' ho hu2 => by cases ho⟩
        · rw [hlen, ← htk, ← List.drop_drop, List.drop_take]
          congr 1
          omega
        · rw [flatMap_drop hw m]
          exact (by rw [Gh.move_F, Gh.move_ι]; exact hr.drop _)
        · rw [Gh.move_F, hF, hlen]
          simp only [rowF]
          omega
/-- What is moved and cut. -/
theorem cut_done (ht : TyTab P ty) (hf : FRel d n a w g env) (hh : HRel w g h) {o : Oper} {t i : Nat} {lo hi : Option Operand} (ho : o.op = .slice t (.tmp i) lo hi none)
    {p : Prop} {v : V} {env' : Env} {h' : H} (hr : cut ty t i (env.get i) (lo.map (ev ty env 0)) (hi.map (ev ty env 0)) env h = .val p v env' h') (hp : p) : OpDone P d n o a w g v env' h' := by
  unfold cut at hr
  split at hr
  · rename_i e o' e' sz xs hk hv hlo
    rw [Option.map_eq_none_iff] at hlo
    subst hlo
    split at hr
    · rename_i q k hb
      simp only [Res.val.injEq] at hr
      obtain ⟨rfl, rfl, rfl, rfl⟩ := hr
      obtain ⟨hq, rfl, hsz, hpos⟩ := hp
      exact cut_row ht hf hh (o := o) (some o') (by simp) (fun u hu => by simp [execOp, ho, hu]) hk hv hb hq (ORelO_map hf hi) hsz hpos
    · cases hr
  · rename_i e e' sz hk hv hlo
    rw [Option.map_eq_none_iff] at hlo
    subst hlo
    split at hr
    · rename_i q k hb
      simp only [Res.val.injEq] at hr
      obtain ⟨rfl, rfl, rfl, rfl⟩ := hr
      obtain ⟨hq, rfl, hsz, hpos⟩ := hp
      have := cut_row ht hf hh (o := o) (xs := []) none (by simp) (fun u hu => by simp [execOp, ho, hu]) hk hv hb hq (ORelO_map hf hi) hsz hpos
      simpa [rowV] using this
    · cases hr
  · rename_i e e' sz xs k l hk hv hlo
    split at hr
    · rename_i hhi
      rw [Option.map_eq_none_iff] at hhi
      subst hhi
      simp only [Res.val.injEq] at hr
      obtain ⟨rfl, rfl, rfl, rfl⟩ := hr
      obtain ⟨hb, rfl, hsz, hpos⟩ := hp
      obtain ⟨lo', rfl, hlv⟩ := Option.map_eq_some_iff.1 hlo
      have hlr := ev_rel (ty := ty) hf 0 lo'
      rw [hlv] at hlr
      exact cut_front ht hf hh (o := o) (fun u hu => by simp [execOp, ho, hu]) hk hv hb hlr hsz hpos
    · cases hr
  · cases hr

/-- An append to nothing, told as an object. -/
theorem rowApp_done (ht : TyTab P ty) (hf : FRel d n a w g env) (hh : HRel w g h) {o : Oper} {b : Builtin} {args : Array Operand} {ts : Array TypeId} (ho : o.op = .call { callee := .builtin b, args := args, argTypes := ts })
    {p : Prop} {v : V} {env' : Env} {h' : H} (hr : rowApp ty b ts.toList args.toList env h = .val p v env' h') (hp : p) : OpDone P d n o a w g v env' h' := by
  unfold rowApp at hr
  split at hr
  · rename_i t t' s x hts hargs
    have ets : ts = #[t, t'] := by apply Array.ext'; simpa using hts
    have eargs : args = #[.tmp s, x] := by apply Array.ext'; simpa using hargs
    subst ets; subst eargs
    split at hr
    · rename_i e e0 sz sz' ys hkt hs hxv
      split at hr
      · rename_i htt
        obtain rfl := htt.1
        simp only [Res.val.injEq] at hr
        obtain ⟨rfl, rfl, rfl, rfl⟩ := hr
        obtain ⟨⟨hsz', hpos⟩, hys, hpl, hrm1, hrm2⟩ := hp
        obtain ⟨i, z, hi, his, hiby, hzz, hzm, hzl, hag⟩ := TyOK.get ht.ok (t := e) (by omega)
        have hk := (ht.ok t).k
        rw [hkt] at hk
        have htu : P.underlying t = some (.slice e) := hk
        have hu : a.eval (.tmp s) = .slice none 0 0 := by
          have hsl := hf.slot s
          rw [hs] at hsl
          show a.tmps.getD s undef = _
          generalize a.tmps.getD s undef = q at hsl
          rcases hsl with hsl | ⟨pr, _, _, _, _, _, _, _, _, he, _⟩
          · cases hsl; rfl
          · cases pr <;> cases he
        have hx := ev_rel (ty := ty) hf t x
        rw [hxv] at hx
        obtain ⟨news, hxl, hx1, hxw, hxr, hxnil, _, _⟩ := AppSrc.ofSlice (P := P) (r := o.type) htu htu hi hzz (hsz'.trans his.symm) hx hys
        have hrun := hxnil (by omega) (by rw [hiby]; omega)
        have hgd := Grow.drew w g hh
        have hwd : ∀ k, (k ∈ ys → k.cells.length = i.size) := fun k hk => hxw k hk
        have hfl : (ys.flatMap V.cells).length = news.length := hxr.1
        have e1 : (news.toArray ++ Builtin.zeroCells z.cells (grownCap w ys.length 0 e - ys.length)).toList.take ((ys.flatMap V.cells).map V.toOwn).length = news := by
          rw [Array.toList_append, List.length_map, hfl]
          exact List.take_left
        obtain ⟨g', h1, h2, h3, h4⟩ := newObjL (e := e) (c := news.toArray ++ Builtin.zeroCells z.cells (grownCap w ys.length 0 e - ys.length)) (vs := (ys.flatMap V.cells).map V.toOwn) (hgd.frel hh hf) (hgd.hrel hh)
          ⟨by simp only [Array.size_append, List.length_map, hfl, List.size_toArray]; omega, fun hlo => by rw [htt.2] at hlo; cases hlo⟩ (by rw [e1]; exact (hxr.mono (hgd.cov hh)).toOwn) (by rw [e1]; exact hx1)
        refine ⟨.slice (some ⟨w.heap.size, 0, none⟩) ys.length (grownCap w ys.length 0 e), _, g', .inl ?_, (hgd.ext hh).trans h1, h2, h3, fun _ _ => .inl (.msl _ _ _ _ _ _ _ (by simpa using grownCap_ge w ys.length 0 e) h4 (fun _ => rfl))⟩
        rw [show execOp a.eval o = (do Pure.pure (Next.value (← Builtin.append_ #[t, t] o.type #[a.eval (.tmp s), a.eval x])) : Sem Next) from by simp [execOp, ho, resolve, invoke, Go.builtin], hu]
        simp only [Sem.run_bind, hrun, Result.andThen_ok, Sem.run_pure]
      · cases hr
    · cases hr
  · cases hr

theorem builtin_done (ht : TyTab P ty) (hf : FRel d n a w g env) (hh : HRel w g h) {o : Oper} {b : Builtin} {args : Array Operand} {ts : Array TypeId} (ho : o.op = .call { callee := .builtin b, args := args, argTypes := ts })
    {p : Prop} {v : V} {env' : Env} {h' : H} (hr : builtin ty b ts.toList args.toList env h = .val p v env' h') (hp : p) : OpDone P d n o a w g v env' h' := by
  unfold builtin at hr
  split at hr
  · rename_i t x hts hargs
    obtain ⟨h1, rfl, rfl⟩ := R1.res_val hr
    have ets : ts = #[t] := by apply Array.ext'; simpa using hts
    have eargs : args = #[x] := by apply Array.ext'; simpa using hargs
    subst ets; subst eargs
    obtain ⟨u, hu, hv⟩ := lenV_run (ts := #[t]) (us := #[a.eval x]) (r := o.type) ht.ok hh h1 hp (ev_rel hf t x) rfl rfl
    refine OpDone.pure hf hh ?_ hv
    simp [execOp, ho, resolve, invoke, Go.builtin, hu]
  · rename_i t t' s x hts hargs
    split at hr
    · rename_i htt
      obtain ⟨h1, rfl, rfl⟩ := R1.res_val hr
      have ets : ts = #[t, t'] := by apply Array.ext'; simpa using hts
      have eargs : args = #[.tmp s, x] := by apply Array.ext'; simpa using hargs
      subst ets; subst eargs
      refine append_op (u := a.eval (.tmp s)) (xu := a.eval x) ht hf hh htt ?_ h1 hp (hf.slot s).asOwn (ev_rel hf t x) (.inl rfl)
      simp [execOp, ho, resolve, invoke, Go.builtin]
    · cases hr
  · rename_i t t' c x hts hargs
    split at hr
    · rename_i htt
      obtain ⟨h1, rfl, rfl⟩ := R1.res_val hr
      have ets : ts = #[t, t'] := by apply Array.ext'; simpa using hts
      have eargs : args = #[.const c, x] := by apply Array.ext'; simpa using hargs
      subst ets; subst eargs
      have hcr : VRel w g.F g.ι (constV ty t c) c := constV_rel c
      by_cases hsl : ∃ b m k, c = .slice (some b) m k
      · obtain ⟨b, m, k, rfl⟩ := hsl
        simp [constV, V.asOwn, append] at h1
      · refine append_op (s := 0) (u := c) (xu := a.eval x) ht hf hh htt ?_ h1 hp (.inl hcr.asOwn) (ev_rel hf t x) (.inr ⟨rfl, fun b m k e => hsl ⟨b, m, k, e⟩⟩)
        simp [execOp, ho, resolve, invoke, Go.builtin, Act.eval]
    · cases hr
  · rename_i t t' x y hts hargs
    obtain ⟨h1, rfl, rfl⟩ := R1.res_val hr
    have ets : ts = #[t, t'] := by apply Array.ext'; simpa using hts
    have eargs : args = #[x, y] := by apply Array.ext'; simpa using hargs
    subst ets; subst eargs
    have hx := ev_rel (ty := ty) hf t x
    have hy := ev_rel (ty := ty) hf t' y
    unfold minV at h1
    split at h1
    · rename_i k m k' m' e1 e2
      rw [e1] at hx; rw [e2] at hy
      simp only [R1.ok.injEq] at h1
      obtain ⟨rfl, rfl⟩ := h1
      have ex := hx.int_inv
      have ey := hy.int_inv
      refine OpDone.pure hf hh (u := .int k (if m' < m then m' else m)) ?_ (.int _ _)
      simp [execOp, ho, resolve, invoke, Go.builtin, Builtin.min_, Builtin.min2, ex, ey]
    · cases h1
  · rename_i t t' x y hts hargs
    obtain ⟨h1, rfl, rfl⟩ := R1.res_val hr
    have ets : ts = #[t, t'] := by apply Array.ext'; simpa using hts
    have eargs : args = #[x, y] := by apply Array.ext'; simpa using hargs
    subst ets; subst eargs
    have hx := ev_rel (ty := ty) hf t x
    have hy := ev_rel (ty := ty) hf t' y
    unfold maxV at h1
    split at h1
    · rename_i k m k' m' e1 e2
      rw [e1] at hx; rw [e2] at hy
      simp only [R1.ok.injEq] at h1
      obtain ⟨rfl, rfl⟩ := h1
      have ex := hx.int_inv
      have ey := hy.int_inv
      refine OpDone.pure hf hh (u := .int k (if m < m' then m' else m)) ?_ (.int _ _)
      simp [execOp, ho, resolve, invoke, Go.builtin, Builtin.max_, Builtin.max2, ex, ey]
    · cases h1
  · rename_i t t' x y hts hargs
    obtain ⟨h1, rfl, rfl⟩ := R1.res_val hr
    have ets : ts = #[t, t'] := by apply Array.ext'; simpa using hts
    have eargs : args = #[x, y] := by apply Array.ext'; simpa using hargs
    subst ets; subst eargs
    have hx := ev_rel (ty := ty) hf t x
    have hy := ev_rel (ty := ty) hf t' y
    unfold cpxV at h1
    split at h1
    · rename_i k m k' m' e1 e2
      rw [e1] at hx; rw [e2] at hy
      split at h1
      · rename_i hk
        subst hk
        simp only [R1.ok.injEq] at h1
        obtain ⟨rfl, rfl⟩ := h1
        generalize hxu : a.eval x = xu at hx
        generalize hyu : a.eval y = yu at hy
        cases hx; cases hy
        refine OpDone.pure hf hh (u := .complex k m m') ?_ (.cpx _ _ _)
        simp [execOp, ho, resolve, invoke, Go.builtin, complex_eq, hxu, hyu]
      · cases h1
    · cases h1
  · rename_i t x hts hargs
    obtain ⟨h1, rfl, rfl⟩ := R1.res_val hr
    have ets : ts = #[t] := by apply Array.ext'; simpa using hts
    have eargs : args = #[x] := by apply Array.ext'; simpa using hargs
    subst ets; subst eargs
    have hx := ev_rel (ty := ty) hf t x
    unfold realV at h1
    split at h1
    · rename_i k m m' e1
      rw [e1] at hx
      simp only [R1.ok.injEq] at h1
      obtain ⟨rfl, rfl⟩ := h1
      generalize hxu : a.eval x = xu at hx
      cases hx
      refine OpDone.pure hf hh (u := .float k m) ?_ (.flt _ _)
      simp [execOp, ho, resolve, invoke, Go.builtin, real_eq, hxu]
    · cases h1
  · rename_i t x hts hargs
    obtain ⟨h1, rfl, rfl⟩ := R1.res_val hr
    have ets : ts = #[t] := by apply Array.ext'; simpa using hts
    have eargs : args = #[x] := by apply Array.ext'; simpa using hargs
    subst ets; subst eargs
    have hx := ev_rel (ty := ty) hf t x
    unfold imagV at h1
    split at h1
    · rename_i k m m' e1
      rw [e1] at hx
      simp only [R1.ok.injEq] at h1
      obtain ⟨rfl, rfl⟩ := h1
      generalize hxu : a.eval x = xu at hx
      cases hx
      refine OpDone.pure hf hh (u := .float k m') ?_ (.flt _ _)
      simp [execOp, ho, resolve, invoke, Go.builtin, imag_eq, hxu]
    · cases h1
  · cases hr

end
end Go.Proofs.YtmjohmefhikelaaDoor.Pv
