/- The pure evaluator, part L: every operation. -/
import Derived.Test.YtnpobhbpbefciaaDoorPwK
set_option linter.unusedVariables false
set_option linter.unusedSimpArgs false
namespace Go.Proofs.YtnpobhbpbefciaaDoor.Pv
open Go

section
variable {P : Program} {ty : Nat → Ty} {tk : List Nat} {d n : Nat} {a : Act} {w : World} {g : Gh} {env : Env} {h : H}

/-- What the table of types must be. -/
structure TyTab (P : Program) (ty : Nat → Ty) : Prop where
  ok : ∀ t, TyOK P t (ty t)
  fields : ∀ t fs, (ty t).k = .struct fs → ∀ f ∈ fs, ∃ i, P.info? f.2 = some i

theorem exec_v {o : Oper} {s : Sem Value} {u : Value} (he : execOp a.eval o = (do Pure.pure (Next.value (← s)) : Sem Next)) (hr : s.run P w = .ok u w) : (execOp a.eval o).run P w = .ok (.value u) w := by
  rw [he]; simp only [Sem.run_bind, hr, Result.andThen_ok, Sem.run_pure]

theorem ORelO_map (hf : FRel d n a w g env) (x : Option Operand) : ORelO w g (x.map (ev ty env 0)) (x.map a.eval) := by
  cases x with
  | none => exact trivial
  | some x => exact ev_rel hf 0 x

theorem append_op (ht : TyTab P ty) (hf : FRel d n a w g env) (hh : HRel w g h) {o : Oper} {t s : Nat} {b0 xv : V} {u xu : Value} {p : Prop} {v : V} {env1 : Env}
    (hop : execOp a.eval o = (do Pure.pure (Next.value (← Builtin.append_ #[t, t] o.type #[u, xu])) : Sem Next)) (hr : append ty t b0 xv = .ok p v) (hp : p)
    (hu : VAt w g (.slot d s) b0 u) (hx : VRel w g.F g.ι xv xu) (henv : env1 = env.put s (env.get s).demote ∨ (env1 = env ∧ ∀ b m c, u ≠ .slice (some b) m c)) : OpDone P d n o a w g v env1 h := by
  unfold append at hr
  split at hr
  · rename_i e e' sz xs sz' ys hkt
    simp only [R1.ok.injEq] at hr
    obtain ⟨rfl, rfl⟩ := hr
    obtain ⟨⟨rfl, h2⟩, ⟨h3, h4⟩, h5⟩ := hp
    refine append_done ht.ok hf hh hkt rfl hop hu hx ?_ h2 h3 h4 h5
    rcases henv with h | ⟨h, hn⟩
    · exact .inl h
    · refine .inr ⟨h, ?_⟩
      rcases own_row hu with ⟨h1, _⟩ | ⟨b, cap, cur, vals, h1, _⟩
      · exact h1
      · exact absurd h1 (hn _ _ _)
  · rename_i e e' sz xs e2 sz2 hkt
    simp only [R1.ok.injEq] at hr
    obtain ⟨rfl, rfl⟩ := hr
    obtain ⟨rfl, h2, h3⟩ := hp
    cases hx
    have := append_done ht.ok hf hh (ys := []) hkt rfl hop hu (VRel.sl0 (ty e').size none 0) (by
      rcases henv with h | ⟨h, hn⟩
      · exact .inl h
      · refine .inr ⟨h, ?_⟩
        rcases own_row hu with ⟨h1, _⟩ | ⟨b, cap, cur, vals, h1, _⟩
        · exact h1
        · exact absurd h1 (hn _ _ _)) h2.1 rfl h2.2 h3
    simpa using this
  · cases hr

theorem builtin_done (ht : TyTab P ty) (hf : FRel d n a w g env) (hh : HRel w g h) {o : Oper} {b : Builtin} {args : Array Operand} {ts : Array TypeId} (ho : o.op = .call { callee := .builtin b, args := args, argTypes := ts })
    {p : Prop} {v : V} {env' : Env} {h' : H} (hr : builtin ty b ts.toList args.toList env h = .val p v env' h') (hp : p) : OpDone P d n o a w g v env' h' := by
  unfold builtin at hr
  split at hr
  · rename_i t x hts hargs
    obtain ⟨h1, rfl, rfl⟩ := R1.res_val hr
    have ets : ts = #[t] := by apply Array.ext'; simpa using hts
    have eargs : args = #[x] := by apply Array.ext'; simpa using hargs
    subst ets; subst eargs
    obtain ⟨u, hu, hv⟩ := lenV_run (ts := #[t]) (us := #[a.eval x]) (r := o.type) ht.ok hh h1 hp (ev_rel hf t x) rfl rfl
    refine OpDone.pure hf hh ?_ hv
    simp [execOp, ho, resolve, invoke, Go.builtin, hu]
  · rename_i t t' s x hts hargs
    split at hr
    · rename_i htt
      subst htt
      obtain ⟨h1, rfl, rfl⟩ := R1.res_val hr
      have ets : ts = #[t, t] := by apply Array.ext'; simpa using hts
      have eargs : args = #[.tmp s, x] := by apply Array.ext'; simpa using hargs
      subst ets; subst eargs
      refine append_op (u := a.eval (.tmp s)) (xu := a.eval x) ht hf hh ?_ h1 hp (hf.slot s).toOwn (ev_rel hf t x) (.inl rfl)
      simp [execOp, ho, resolve, invoke, Go.builtin]
    · cases hr
  · rename_i t t' c x hts hargs
    split at hr
    · rename_i htt
      subst htt
      obtain ⟨h1, rfl, rfl⟩ := R1.res_val hr
      have ets : ts = #[t, t] := by apply Array.ext'; simpa using hts
      have eargs : args = #[.const c, x] := by apply Array.ext'; simpa using hargs
      subst ets; subst eargs
      have hcr : VRel w g.F g.ι (constV ty t c) c := constV_rel c
      by_cases hsl : ∃ b m k, c = .slice (some b) m k
      · obtain ⟨b, m, k, rfl⟩ := hsl
        simp [constV, V.toOwn, append] at h1
      · refine append_op (s := 0) (u := c) (xu := a.eval x) ht hf hh ?_ h1 hp (.inl hcr.toOwn) (ev_rel hf t x) (.inr ⟨rfl, fun b m k e => hsl ⟨b, m, k, e⟩⟩)
        simp [execOp, ho, resolve, invoke, Go.builtin, Act.eval]
    · cases hr
  · rename_i t t' x y hts hargs
    obtain ⟨h1, rfl, rfl⟩ := R1.res_val hr
    have ets : ts = #[t, t'] := by apply Array.ext'; simpa using hts
    have eargs : args = #[x, y] := by apply Array.ext'; simpa using hargs
    subst ets; subst eargs
    have hx := ev_rel (ty := ty) hf t x
    have hy := ev_rel (ty := ty) hf t' y
    unfold minV at h1
    split at h1
    · rename_i k m k' m' e1 e2
      rw [e1] at hx; rw [e2] at hy
      simp only [R1.ok.injEq] at h1
      obtain ⟨rfl, rfl⟩ := h1
      have ex := hx.int_inv
      have ey := hy.int_inv
      refine OpDone.pure hf hh (u := .int k (if m' < m then m' else m)) ?_ (.int _ _)
      simp [execOp, ho, resolve, invoke, Go.builtin, Builtin.min_, Builtin.min2, ex, ey]
    · cases h1
  · rename_i t t' x y hts hargs
    obtain ⟨h1, rfl, rfl⟩ := R1.res_val hr
    have ets : ts = #[t, t'] := by apply Array.ext'; simpa using hts
    have eargs : args = #[x, y] := by apply Array.ext'; simpa using hargs
    subst ets; subst eargs
    have hx := ev_rel (ty := ty) hf t x
    have hy := ev_rel (ty := ty) hf t' y
    unfold maxV at h1
    split at h1
    · rename_i k m k' m' e1 e2
      rw [e1] at hx; rw [e2] at hy
      simp only [R1.ok.injEq] at h1
      obtain ⟨rfl, rfl⟩ := h1
      have ex := hx.int_inv
      have ey := hy.int_inv
      refine OpDone.pure hf hh (u := .int k (if m < m' then m' else m)) ?_ (.int _ _)
      simp [execOp, ho, resolve, invoke, Go.builtin, Builtin.max_, Builtin.max2, ex, ey]
    · cases h1
  · cases hr

end
end Go.Proofs.YtnpobhbpbefciaaDoor.Pv
