/- The pure evaluator, part F: each operation is as the model's: values, reads. -/
import Derived.Test.YtmjohmefhikelaaDoorPwE
import Derived.Laws.CopyRow
import Derived.Laws.BytesString
import Derived.Laws.IdiomCopy
import Derived.Laws.NewBlocks
set_option linter.unusedVariables false
set_option linter.unusedSimpArgs false
namespace Go.Proofs.YtmjohmefhikelaaDoor.Pv
open Go
variable [DS]

section
variable {P : Program} {ty : Nat → Ty} {d n : Nat} {a : Act} {w : World} {g : Gh} {env : Env} {h : H}

theorem take_done (i : Nat) (o : Oper) (hf : FRel d n a w g env) (hh : HRel w g h) (hr : (execOp a.eval o).run P w = .ok (.value (a.eval (.tmp i))) w) :
    OpDone P d n o a w g (env.get i) (env.put i (env.get i).demote) h := by
  cases hd : o.dst with
  | none =>
    refine ⟨_, w, g.move (.slot d i) (.slot d i) (a.tmps.getD i undef), .inl hr, move_ext g w _ (.inl rfl), hh.moved (by simp), hf.moved, fun j hj => ?_⟩
    rw [hd] at hj; cases hj
  | some t =>
    refine ⟨_, w, g.move (.slot d i) (.slot d t) (a.tmps.getD i undef), .inl hr, move_ext g w _ (.inl rfl), hh.moved (by simp), hf.moved, fun j hj => ?_⟩
    rw [hd] at hj; injection hj with hj; subst hj
    exact (hf.slot i).moved

theorem OpDone.toOwn {o : Oper} {v : V} {env' : Env} {h' : H} (hd : OpDone P d n o a w g v env' h') : OpDone P d n o a w g v.toOwn env' h' := by
  obtain ⟨u, w', g', h1, h2, h3, h4, h5⟩ := hd
  exact ⟨u, w', g', h1, h2, h3, h4, fun i hi => (h5 i hi).toOwn⟩

omit [DS] in
theorem R1.res_val {r : R1} {env0 env' : Env} {h0 h' : H} {p : Prop} {v : V} (h : r.res env0 h0 = .val p v env' h') : r = .ok p v ∧ env' = env0 ∧ h' = h0 := by
  cases r with
  | ok q u => simp only [R1.res, Res.val.injEq] at h; obtain ⟨rfl, rfl, rfl, rfl⟩ := h; exact ⟨rfl, rfl, rfl⟩
  | bad => simp [R1.res] at h

/-! ### Values -/
omit [DS] in
theorem pick_run {c x y : V} {cu xu yu : Value} {p : Prop} {v : V} (h : pickV c x y = .ok p v) (hc : VRel w g.F g.ι c cu) (hx : VRel w g.F g.ι x xu) (hy : VRel w g.F g.ι y yu) :
    ∃ b, cu = .bool b ∧ VRel w g.F g.ι v (if b then xu else yu) := by
  cases c <;> simp only [pickV, R1.ok.injEq, reduceCtorEq] at h
  obtain ⟨rfl, rfl⟩ := h
  rename_i b
  refine ⟨b, hc.bool_inv, ?_⟩
  cases b <;> simp [hx, hy]

omit [DS] in
theorem binOp_run {op : BinOp} {x y : V} {xu yu : Value} {p : Prop} {v : V} {t : TypeId} (h : binOp op x y = .ok p v) (hp : p) (hx : VRel w g.F g.ι x xu) (hy : VRel w g.F g.ι y yu) :
    ∃ u, (Go.binOp op t xu yu).run P w = .ok u w ∧ VRel w g.F g.ι v u := by
  unfold binOp at h
  split at h
  · obtain rfl := hx.int_inv
    obtain rfl := hy.int_inv
    split at h
    · exact shiftOp_run h hp
    · rename_i hs
      split at h
      · rename_i hk; subst hk; exact intOp_run h hp (by simpa using hs)
      · cases h
  · obtain ⟨s, rfl, hs⟩ := hx.str_inv
    obtain ⟨s', rfl, hs'⟩ := hy.str_inv
    exact strOp_run hs hs' h hp
  · cases hx; cases hy
    split at h
    · rename_i hk
      subst hk
      unfold fltOp at h
      split at h <;> simp only [R1.ok.injEq, reduceCtorEq] at h <;> obtain ⟨rfl, rfl⟩ := h <;> exact ⟨_, by simp [Go.binOp, Op.floatCmp], .bool _⟩
    · cases h
  · cases h
omit [DS] in
theorem binOp_guard {op : BinOp} {x y : V} {xu yu : Value} {p : Prop} {v : V} {t : TypeId} {ox oy : Operand} (h : binOp op x y = .ok p v) (hx : VRel w g.F g.ι x xu) (hy : VRel w g.F g.ι y yu) :
    (eqGuard op t ox oy xu yu).run P w = .ok () w := by
  unfold binOp at h
  split at h
  · obtain rfl := hx.int_inv
    obtain rfl := hy.int_inv
    unfold eqGuard; split <;> simp
  · obtain ⟨s, rfl, hs⟩ := hx.str_inv
    obtain ⟨s', rfl, hs'⟩ := hy.str_inv
    unfold eqGuard; split <;> simp
  · cases hx; cases hy
    unfold eqGuard; split <;> simp
  · cases h

omit [DS] in
theorem eq_at {t : TypeId} {x y : Value} {b : Bool} (h : (Op.equalIn (9999 + 1) t x y).run P w = .ok b w) : (Op.equal t x y).run P w = .ok b w := h
omit [DS] in
theorem eql_run {t : TypeId} {x y : Value} {b : Bool} (h : (Op.equal t x y).run P w = .ok b w) : (do Pure.pure (Value.bool (← Op.equal t x y)) : Sem Value).run P w = .ok (.bool b) w := by
  simp only [Sem.run_bind, h, Result.andThen_ok, Sem.run_pure]
omit [DS] in
theorem neq_run {t : TypeId} {x y : Value} {b : Bool} (h : (Op.equal t x y).run P w = .ok b w) : (do Pure.pure (Value.bool (!(← Op.equal t x y))) : Sem Value).run P w = .ok (.bool (!b)) w := by
  simp only [Sem.run_bind, h, Result.andThen_ok, Sem.run_pure]
omit [DS] in
theorem binOpT_run (hty : ∀ t, TyOK P t (ty t)) {op : BinOp} {t : TypeId} {c : Bool} {x y : V} {xu yu : Value} {p : Prop} {v : V} (h : binOpT ty op t c x y = .ok p v) (hp : p) (hx : VRel w g.F g.ι x xu) (hy : VRel w g.F g.ι y yu) :
    ∃ u, (Go.binOp op t xu yu).run P w = .ok u w ∧ VRel w g.F g.ι v u := by
  have hk := (hty t).k
  unfold binOpT at h
  split at h
  case h_15 => exact binOp_run h hp hx hy
  all_goals
    rename_i hkt
    rw [hkt] at hk
    simp only [KOK] at hk
    cases hx; cases hy
  case h_1.bool.bool a b =>
    simp only [R1.ok.injEq] at h; obtain ⟨rfl, rfl⟩ := h
    exact ⟨_, eql_run (eq_at (b := a == b) (by rw [Op.equalIn]; simp [underlying, hk])), .bool _⟩
  case h_2.bool.bool a b =>
    simp only [R1.ok.injEq] at h; obtain ⟨rfl, rfl⟩ := h
    exact ⟨_, neq_run (eq_at (b := a == b) (by rw [Op.equalIn]; simp [underlying, hk])), .bool _⟩
  case h_3.iface.nili =>
    simp only [R1.ok.injEq] at h; obtain ⟨rfl, rfl⟩ := h
    obtain ⟨ms, hk⟩ := hk
    exact ⟨_, eql_run (eq_at (b := false) (by rw [Op.equalIn]; simp [underlying, hk])), .bool _⟩
  case h_4.iface.nili =>
    simp only [R1.ok.injEq] at h; obtain ⟨rfl, rfl⟩ := h
    obtain ⟨ms, hk⟩ := hk
    exact ⟨_, neq_run (eq_at (b := false) (by rw [Op.equalIn]; simp [underlying, hk])), .bool _⟩
  case h_5.nili.nili =>
    split at h
    · simp only [R1.ok.injEq] at h; obtain ⟨rfl, rfl⟩ := h
      obtain ⟨ms, hk⟩ := hk
      exact ⟨_, eql_run (eq_at (b := true) (by rw [Op.equalIn]; simp [underlying, hk])), .bool _⟩
    · cases h
  case h_6.nili.nili =>
    split at h
    · simp only [R1.ok.injEq] at h; obtain ⟨rfl, rfl⟩ := h
      obtain ⟨ms, hk⟩ := hk
      exact ⟨_, neq_run (eq_at (b := true) (by rw [Op.equalIn]; simp [underlying, hk])), .bool _⟩
    · cases h
  case h_7.nilp.nilp =>
    simp only [R1.ok.injEq] at h; obtain ⟨rfl, rfl⟩ := h
    exact ⟨_, eql_run (eq_at (b := true) (by rw [Op.equalIn]; simp [underlying, hk])), .bool _⟩
  case h_8.nilp.nilp =>
    simp only [R1.ok.injEq] at h; obtain ⟨rfl, rfl⟩ := h
    exact ⟨_, neq_run (eq_at (b := true) (by rw [Op.equalIn]; simp [underlying, hk])), .bool _⟩
  case h_9.ref.nilp =>
    simp only [R1.ok.injEq] at h; obtain ⟨rfl, rfl⟩ := h
    exact ⟨_, eql_run (eq_at (b := false) (by rw [Op.equalIn]; simp [underlying, hk])), .bool _⟩
  case h_10.ref.nilp =>
    simp only [R1.ok.injEq] at h; obtain ⟨rfl, rfl⟩ := h
    exact ⟨_, neq_run (eq_at (b := false) (by rw [Op.equalIn]; simp [underlying, hk])), .bool _⟩
  case h_11.imm.nilp =>
    simp only [R1.ok.injEq] at h; obtain ⟨rfl, rfl⟩ := h
    exact ⟨_, eql_run (eq_at (b := false) (by rw [Op.equalIn]; simp [underlying, hk])), .bool _⟩
  case h_12.imm.nilp =>
    simp only [R1.ok.injEq] at h; obtain ⟨rfl, rfl⟩ := h
    exact ⟨_, neq_run (eq_at (b := false) (by rw [Op.equalIn]; simp [underlying, hk])), .bool _⟩
  case h_13.nils.nils =>
    split at h
    · simp only [R1.ok.injEq] at h; obtain ⟨rfl, rfl⟩ := h
      exact ⟨_, eql_run (eq_at (b := true) (by rw [Op.equalIn]; simp [underlying, hk])), .bool _⟩
    · cases h
  case h_14.nils.nils =>
    split at h
    · simp only [R1.ok.injEq] at h; obtain ⟨rfl, rfl⟩ := h
      exact ⟨_, neq_run (eq_at (b := true) (by rw [Op.equalIn]; simp [underlying, hk])), .bool _⟩
    · cases h
omit [DS] in
theorem binOpT_guard (hty : ∀ t, TyOK P t (ty t)) {op : BinOp} {t : TypeId} {c : Bool} {x y : V} {xu yu : Value} {p : Prop} {v : V} {ox oy : Operand} (hc : c = (isC ox || isC oy)) (h : binOpT ty op t c x y = .ok p v) (hx : VRel w g.F g.ι x xu) (hy : VRel w g.F g.ι y yu) :
    (eqGuard op t ox oy xu yu).run P w = .ok () w := by
  unfold binOpT at h
  split at h
  case h_15 => exact binOp_guard h hx hy
  case h_5 =>
    cases hx; cases hy
    split at h
    · rename_i hct
      rw [hct] at hc
      cases ox <;> cases oy <;> simp [isC] at hc <;> simp [eqGuard]
    · cases h
  case h_6 =>
    cases hx; cases hy
    split at h
    · rename_i hct
      rw [hct] at hc
      cases ox <;> cases oy <;> simp [isC] at hc <;> simp [eqGuard]
    · cases h
  case h_13 =>
    cases hx; cases hy
    split at h
    · rename_i hct
      rw [hct] at hc
      cases ox <;> cases oy <;> simp [isC] at hc <;> simp [eqGuard]
    · cases h
  case h_14 =>
    cases hx; cases hy
    split at h
    · rename_i hct
      rw [hct] at hc
      cases ox <;> cases oy <;> simp [isC] at hc <;> simp [eqGuard]
    · cases h
  all_goals
    cases hx; cases hy
    simp [eqGuard]

omit [DS] in
theorem unOp_run {op : UnOp} {x : V} {xu : Value} {p : Prop} {v : V} (h : unOp op x = .ok p v) (hx : VRel w g.F g.ι x xu) :
    ∃ u, (Op.unary op xu).run P w = .ok u w ∧ VRel w g.F g.ι v u := by
  unfold unOp at h
  split at h <;> simp only [R1.ok.injEq, reduceCtorEq] at h
  · obtain ⟨rfl, rfl⟩ := h
    obtain rfl := hx.bool_inv
    exact ⟨_, by simp [Op.unary], .bool _⟩
  · obtain ⟨rfl, rfl⟩ := h
    obtain rfl := hx.int_inv
    exact ⟨_, by simp [Op.unary, Op.intArith], .int _ _⟩
  · obtain ⟨rfl, rfl⟩ := h
    obtain rfl := hx.int_inv
    exact ⟨.int _ (bitsV .xor _ _ _), by simp [Op.unary]; rfl, .int _ _⟩


/-! ### Bounds -/
/-- An operand that may be left out. -/
def ORelO (w : World) (g : Gh) : Option V → Option Value → Prop
  | none, none => True
  | some v, some u => VRel w g.F g.ι v u
  | _, _ => False
omit [DS] in
theorem sliceBound_run {i : Int} {k : IntKind} {y : Nat} {c : BoundsCode} (h : 0 ≤ i ∧ i ≤ y) : (Instr.sliceBound (.int k i) y c).run P w = .ok i.toNat w := by
  simp [Instr.sliceBound, asIntOf, h]
omit [DS] in
theorem sliceBounds_run {lo hi : Option V} {lu hu : Option Value} (hl : ORelO w g lo lu) (hh : ORelO w g hi hu) {len cap : Nat} (hc : len ≤ cap) {p : Prop} {l k : Nat} (h : bounds lo hi len = some (p, l, k)) (hp : p) (b : Bool) :
    (Instr.sliceBounds b len cap lu hu none).run P w = .ok (l, k, cap) w ∧ l ≤ k ∧ k ≤ len := by
  unfold bounds at h
  have h2 : ∃ q, hiB hi len = some (q, k) ∧ ∃ r, loB lo k = some (r, l) ∧ p = (q ∧ r) := by
    cases h1 : hiB hi len with
    | none => simp [h1] at h
    | some x =>
      obtain ⟨q, k'⟩ := x
      simp only [h1] at h
      cases h2 : loB lo k' with
      | none => simp [h2] at h
      | some y =>
        obtain ⟨r, l'⟩ := y
        simp only [h2, Option.some.injEq, Prod.mk.injEq] at h
        obtain ⟨h3, rfl, rfl⟩ := h
        exact ⟨q, rfl, r, h2, h3.symm⟩
  obtain ⟨q, h1, r, h2, rfl⟩ := h2
  obtain ⟨hq, hr⟩ := hp
  have A : (match hu with | some v => Instr.sliceBound v cap (if b then .sliceAcap else .sliceAlen) | none => (Pure.pure len : Sem Nat)).run P w = .ok k w ∧ k ≤ len := by
    cases hi with
    | none =>
      cases hu with
      | some u => exact hh.elim
      | none => simp only [hiB, Option.some.injEq, Prod.mk.injEq] at h1; obtain ⟨_, rfl⟩ := h1; exact ⟨by simp, Nat.le_refl _⟩
    | some v =>
      cases hu with
      | none => exact hh.elim
      | some u =>
        cases v <;> simp only [hiB, Option.some.injEq, Prod.mk.injEq, reduceCtorEq] at h1
        obtain ⟨rfl, rfl⟩ := h1
        obtain rfl := VRel.int_inv hh
        exact ⟨sliceBound_run ⟨hq.1, by omega⟩, by omega⟩
  have B : (match lu with | some v => Instr.sliceBound v k (if (none : Option Value).isSome then .slice3C else .sliceB) | none => (Pure.pure 0 : Sem Nat)).run P w = .ok l w ∧ l ≤ k := by
    cases lo with
    | none =>
      cases lu with
      | some u => exact hl.elim
      | none => simp only [loB, Option.some.injEq, Prod.mk.injEq] at h2; obtain ⟨_, rfl⟩ := h2; exact ⟨by simp, Nat.zero_le _⟩
    | some v =>
      cases lu with
      | none => exact hl.elim
      | some u =>
        cases v <;> simp only [loB, Option.some.injEq, Prod.mk.injEq, reduceCtorEq] at h2
        obtain ⟨rfl, rfl⟩ := h2
        obtain rfl := VRel.int_inv hl
        exact ⟨sliceBound_run hr, by omega⟩
  refine ⟨?_, B.2, A.2⟩
  unfold Instr.sliceBounds
  have A1 := A.1
  have B1 := B.1
  cases hu <;> cases lu <;> simp only [] at A1 B1 ⊢ <;> (try simp at A1) <;> (try simp at B1) <;> simp [A1, B1]

omit [DS] in
theorem withB_ok {b : Option (Prop × Nat × Nat)} {f : Nat → Nat → V} {q p : Prop} {v : V} (h : withB b f q = .ok p v) (hp : p) : ∃ r l k, b = some (r, l, k) ∧ r ∧ q ∧ v = f l k := by
  unfold withB at h
  split at h
  · simp only [R1.ok.injEq] at h
    obtain ⟨rfl, rfl⟩ := h
    exact ⟨_, _, _, rfl, hp.1, hp.2, rfl⟩
  · cases h

omit [DS] in
theorem flatMap_take {sz : Nat} {xs : List V} (hw : ∀ x ∈ xs, x.cells.length = sz) (k : Nat) : (xs.take k).flatMap V.cells = (xs.flatMap V.cells).take (k * sz) := by
  induction xs generalizing k with
  | nil => simp
  | cons x xs ih =>
    cases k with
    | zero => simp
    | succ k =>
      simp only [List.take_succ_cons, List.flatMap_cons]
      rw [ih (fun y hy => hw y (List.mem_cons_of_mem _ hy)), List.take_append]
      have e : (k + 1) * sz = x.cells.length + k * sz := by rw [hw x List.mem_cons_self, Nat.add_mul]; omega
      have e1 : x.cells.take ((k + 1) * sz) = x.cells := List.take_of_length_le (by rw [e]; exact Nat.le_add_right _ _)
      have e2 : (k + 1) * sz - x.cells.length = k * sz := by rw [e]; exact Nat.add_sub_cancel_left _ _
      rw [e1, e2]
omit [DS] in
theorem flatMap_drop {sz : Nat} {xs : List V} (hw : ∀ x ∈ xs, x.cells.length = sz) (k : Nat) : (xs.drop k).flatMap V.cells = (xs.flatMap V.cells).drop (k * sz) := by
  induction xs generalizing k with
  | nil => simp
  | cons x xs ih =>
    cases k with
    | zero => simp
    | succ k =>
      simp only [List.drop_succ_cons, List.flatMap_cons]
      rw [ih (fun y hy => hw y (List.mem_cons_of_mem _ hy)), List.drop_append]
      have e : (k + 1) * sz = x.cells.length + k * sz := by rw [hw x List.mem_cons_self, Nat.add_mul]; omega
      have e1 : x.cells.drop ((k + 1) * sz) = [] := List.drop_eq_nil_of_le (by rw [e]; exact Nat.le_add_right _ _)
      have e2 : (k + 1) * sz - x.cells.length = k * sz := by rw [e]; exact Nat.add_sub_cancel_left _ _
      rw [e1, e2, List.nil_append]

omit [DS] in
/-- A piece of a slice. -/
theorem VRel.piece {sz : Nat} {xs : List V} {o : Option Addr} {len cap l k : Nat} (hv : VRel w g.F g.ι (.sl sz xs) (.slice o len cap)) (h1 : l ≤ k) (h2 : k ≤ xs.length) :
    VRel w g.F g.ι (.sl sz ((xs.take k).drop l)) (.slice (if cap = l then o else o.map (·.add (l * sz))) (k - l) (cap - l)) := by
  obtain ⟨a0, cap', hu, hcase⟩ := hv.flat
  injection hu with e1 e2 e3
  subst e1; subst e2; subst e3
  by_cases hlk : k = l
  · subst hlk
    have e : (xs.take k).drop k = [] := List.drop_eq_nil_of_le (by simp; omega)
    rw [e, Nat.sub_self]
    exact .sl0 _ _ _
  · rcases hcase with rfl | ⟨hcap, b, off, vals, rfl, hsz, hw, hvl, hcov, hc, ho, hr⟩
    · simp at h2; omega
    · have hne : ¬ cap = l := by omega
      rw [if_neg hne]
      simp only [Option.map_some, Addr.add_lit]
      have hlen : ((xs.take k).drop l).length = k - l := by simp; omega
      have hsub : ∀ x ∈ (xs.take k).drop l, x.cells.length = sz := fun x hx => hw x (List.mem_of_mem_take (List.mem_of_mem_drop hx))
      have hrr : LRel w g.F g.ι (((xs.take k).drop l).flatMap V.cells) ((vals.take (k * sz)).drop (l * sz)) := by
        rw [flatMap_drop (fun x hx => hw x (List.mem_of_mem_take hx)), flatMap_take hw]
        exact (hr.take _).drop _
      have hvl2 : ((vals.take (k * sz)).drop (l * sz)).length = (k - l) * sz := by
        have : k * sz ≤ xs.length * sz := Nat.mul_le_mul_right _ h2
        simp only [List.length_drop, List.length_take, hvl, Nat.sub_mul]
        omega
      refine .sl sz _ b (off + l * sz) _ _ ((vals.take (k * sz)).drop (l * sz)) hlen.symm (by omega) hsz hsub (by rw [hvl2, hlen]) ?_ (fun i u hu => ?_) (fun u hu => ho u (List.mem_of_mem_take (List.mem_of_mem_drop hu))) hrr.2
      · have h3 : (k - l) * sz + l * sz ≤ xs.length * sz := by rw [← Nat.add_mul]; exact Nat.mul_le_mul_right _ (by omega)
        rw [hvl2]
        omega
      · rw [List.getElem?_drop, List.getElem?_take] at hu
        split at hu
        · have := hc _ u hu
          rwa [← Nat.add_assoc] at this
        · cases hu

omit [DS] in
theorem extract_list (s : ByteArray) (l k : Nat) : (s.extract l k).data.toList = (s.data.toList.take k).drop l := by
  simp [List.drop_take]

include P in
omit [DS] in
theorem slice_run (hty : ∀ t, TyOK P t (ty t)) {t : Nat} {x : V} {xu : Value} {lo hi : Option V} {lu hu : Option Value} {p : Prop} {v : V} (h : slice ty t x lo hi = .ok p v) (hp : p)
    (hx : VRel w g.F g.ι x xu) (hl : ORelO w g lo lu) (hh : ORelO w g hi hu) :
    ∃ u, (Instr.sliceAt t xu lu hu none).run P w = .ok u w ∧ VRel w g.F g.ι v u := by
  have hk := (hty t).k
  unfold slice at h
  split at h
  · rename_i s' hkt
    rw [hkt] at hk
    have hk : P.underlying t = some .string := hk
    obtain ⟨r, l, k, hb, hr, _, rfl⟩ := withB_ok h hp
    obtain ⟨s, rfl, hs⟩ := hx.str_inv
    have hss : s.size = s'.length := by rw [← hs]; simp
    rw [← hss] at hb
    obtain ⟨h1, h2, h3⟩ := sliceBounds_run (P := P) hl hh (Nat.le_refl _) hb hr false
    refine ⟨.string (s.extract l k), by simp [Instr.sliceAt, Instr.slice, underlying, hk, h1], .str _ _ ?_⟩
    rw [← hs]
    exact extract_list s l k
  · rename_i e sz xs hkt
    rw [hkt] at hk
    have hk : P.underlying t = some (.slice e) := hk
    obtain ⟨r, l, k, hb, hr, ⟨hsz, hz⟩, rfl⟩ := withB_ok h hp
    have hx' := hx
    obtain ⟨a0, cap, rfl, hcase⟩ := hx.flat
    have hlc : xs.length ≤ cap := by
      rcases hcase with rfl | ⟨hc, _⟩
      · exact Nat.zero_le _
      · exact hc
    obtain ⟨h1, h2, h3⟩ := sliceBounds_run (P := P) hl hh hlc hb hr true
    have hso := run_sizeOf' hty (t := e) (by omega) w
    refine ⟨_, ?_, hx'.piece h2 h3⟩
    rw [hsz]
    simp [Instr.sliceAt, Instr.slice, underlying, hk, h1, hso]
  · rename_i e' e sz hkt
    rw [hkt] at hk
    have hk : P.underlying t = some (.slice e') := hk
    obtain ⟨r, l, k, hb, hr, hz, rfl⟩ := withB_ok h hp
    cases hx
    obtain ⟨h1, h2, h3⟩ := sliceBounds_run (P := P) hl hh (Nat.le_refl 0) hb hr true
    have hso := run_sizeOf' hty (t := e') (by omega) w
    obtain rfl : k = 0 := by omega
    obtain rfl : l = 0 := by omega
    exact ⟨.slice none 0 0, by simp [Instr.sliceAt, Instr.slice, underlying, hk, h1, hso], .nils _ _⟩
  · rename_i e id off len sz hkt
    rw [hkt] at hk
    have hk : P.underlying t = some (.slice e) := hk
    obtain ⟨r, l, k, hb, hr, ⟨hsz, hz⟩, rfl⟩ := withB_ok h hp
    cases hx with
    | msl _ _ _ _ cap b a0 hcap hid ha =>
      obtain ⟨h1, h2, h3⟩ := sliceBounds_run (P := P) hl hh hcap hb hr true
      have hso := run_sizeOf' hty (t := e) (by omega) w
      refine ⟨.slice (if cap = l then a0 else a0.map (·.add (l * (ty e).size))) (k - l) (cap - l), by simp [Instr.sliceAt, Instr.slice, underlying, hk, h1, hso], .msl _ _ _ _ _ b _ (by omega) hid (fun hlt => ?_)⟩
      rw [if_neg (by omega), ha (by omega), hsz]
      simp [Addr.add_lit]
  · rename_i m e id off hkt
    rw [hkt] at hk
    have hk : P.underlying t = some (.array m e) := hk
    obtain ⟨r, l, k, hb, hr, hz, rfl⟩ := withB_ok h hp
    cases hx with
    | ref _ _ b hid =>
      obtain ⟨h1, h2, h3⟩ := sliceBounds_run (P := P) hl hh (Nat.le_refl m) hb hr false
      have hso := run_sizeOf' hty (t := e) hz w
      refine ⟨.slice (some (if m = l then ⟨b, off, none⟩ else (⟨b, off, none⟩ : Addr).add (l * (ty e).size))) (k - l) (m - l), by simp [Instr.sliceAt, Instr.sureAddr, underlying, hk, h1, hso], .msl _ _ _ _ _ b _ (by omega) hid (fun hlt => ?_)⟩
      rw [if_neg (by omega)]
      simp [Addr.add_lit]
  · cases h

end
end Go.Proofs.YtmjohmefhikelaaDoor.Pv
