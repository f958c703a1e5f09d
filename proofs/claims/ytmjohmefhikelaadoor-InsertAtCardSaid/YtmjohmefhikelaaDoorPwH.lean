/- The pure evaluator, part H: fields, loads, conversions, lengths, parts put together. -/
import Derived.Test.YtmjohmefhikelaaDoorPwG
import Derived.Laws.BytesArg
import Derived.Lib.ConvBytes
set_option linter.unusedVariables false
set_option linter.unusedSimpArgs false
namespace Go.Proofs.YtmjohmefhikelaaDoor.Pv
open Go
variable [DS]

section
variable {P : Program} {ty : Nat → Ty} {tk : List Nat} {d n : Nat} {a : Act} {w : World} {g : Gh} {env : Env} {h : H}

include P in
omit [DS] in
theorem fieldOf_spec (hty : ∀ t, TyOK P t (ty t)) {s f off t : Nat} (h : fieldOf ty s f = some (off, t)) :
    ∃ (F : Array Field) (fl : Field), P.underlying s = some (.struct F) ∧ F[f]? = some fl ∧ fl.offset = off ∧ fl.type = t := by
  have hk := (hty s).k
  unfold fieldOf at h
  split at h
  · rename_i fs hfs
    rw [hfs] at hk
    obtain ⟨F, hF, hm⟩ := hk
    subst hm
    rw [List.getElem?_map] at h
    obtain ⟨fl, hfl, he⟩ := Option.map_eq_some_iff.1 h
    simp only [Prod.mk.injEq] at he
    exact ⟨F, fl, hF, by simpa using hfl, he.1, he.2⟩
  · cases h

include P in
omit [DS] in
theorem field_run (hty : ∀ t, TyOK P t (ty t)) {s f off t : Nat} {cs : List V} {xu : Value} (h : fieldOf ty s f = some (off, t)) (hp : 0 < (ty t).size) (hl : off + (ty t).size ≤ cs.length) (hx : VRel w g.F g.ι (.agg cs) xu) :
    ∃ u, (Instr.field s xu f).run P w = .ok u w ∧ VRel w g.F g.ι ((ty t).val ((cs.drop off).take (ty t).size)) u := by
  obtain ⟨F, fl, hF, hfl, rfl, rfl⟩ := fieldOf_spec hty h
  cases hx with
  | agg _ ca hcl hr =>
    have hpr := part_run (w := w) hty (t := fl.type) (cs := ca) (off := fl.offset) (by omega) hp
    refine ⟨_, ?_, val_rel (us := ((ca.toList.drop fl.offset).take (ty fl.type).size)) ?_ (by simp; omega) hp⟩
    · simp [Instr.field, underlying, hF, hfl, asAgg, hpr]
    · have hcr : LRel w g.F g.ι cs ca.toList := ⟨by simpa using hcl, fun k c u hc hu => hr k c u hc (by simpa using hu)⟩
      exact (hcr.drop _).take _

include P in
omit [DS] in
theorem fieldAt_run (hty : ∀ t, TyOK P t (ty t)) {s f off t : Nat} {b o : Nat} (h : fieldOf ty s f = some (off, t)) (hp : 0 < (ty t).size) :
    (Instr.fieldAt s (.pointer (some ⟨b, o, none⟩)) f).run P w = .ok (.pointer (some ⟨b, o + off, none⟩)) w := by
  obtain ⟨F, fl, hF, hfl, rfl, rfl⟩ := fieldOf_spec hty h
  have hso := run_sizeOf' hty hp w
  have h0 : ¬ (ty fl.type).size = 0 := by omega
  simp [Instr.fieldAt, underlying, hF, hfl, Instr.sureAddr, fieldPlace, hso, h0, Addr.add_lit]

omit [DS] in
theorem VRel.imm_drop {cs : List V} {b o : Nat} (hx : VRel w g.F g.ι (.imm cs) (.pointer (some ⟨b, o, none⟩))) {k : Nat} (hkl : k ≤ cs.length) : VRel w g.F g.ι (.imm (cs.drop k)) (.pointer (some ⟨b, o + k, none⟩)) := by
  cases hx with
  | imm _ _ _ vals hv hcov hc h1 hr =>
    have hl : LRel w g.F g.ι cs vals := ⟨hv.symm, hr⟩
    refine .imm _ b _ (vals.drop k) (by simp [hv]) (by simp; omega) (fun i u hu => ?_) (fun u hu => h1 u (List.mem_of_mem_drop hu)) (hl.drop k).2
    rw [List.getElem?_drop] at hu
    have := hc _ u hu
    rwa [← Nat.add_assoc] at this

omit [DS] in
theorem H.row_some {id : Nat} {cs : List V} (h0 : h.row id = some cs) : h[id]? = some (.cells (h.ety id) cs) := by
  unfold H.row at h0
  obtain ⟨o, ho, h1⟩ := Option.bind_eq_some_iff.1 h0
  cases o <;> simp [AObj.row] at h1
  subst h1
  unfold H.ety
  rw [ho]

omit [DS] in
/-- The cells of an object that a reference names. -/
theorem HRel.cells (hh : HRel w g h) {id b : Nat} {cs : List V} (h0 : h.row id = some cs) (hb : g.ι[id]? = some b) :
    ∃ c e, w.heap[b]? = some (.cells c e (0, 0)) ∧ cs.length ≤ c.size ∧ ∀ j v u, cs[j]? = some v → c[j]? = some u → VAt w g (.cell id j) v u ∧ u.oneCell' = true := by
  obtain ⟨c, e, h1, h2, h3, h4⟩ := hh.obj id (.cells (h.ety id) cs) b (H.row_some h0) hb
  exact ⟨c, e, h1, h2.1, h3⟩
omit [DS] in
/-- .. and their type. -/
theorem HRel.cellsT (hh : HRel w g h) {id b : Nat} {cs : List V} (h0 : h.row id = some cs) (hb : g.ι[id]? = some b) :
    ∃ c, w.heap[b]? = some (.cells c (h.ety id) (0, 0)) ∧ sizeOk (h.ety id) c.size cs.length ∧ ∀ j v u, cs[j]? = some v → c[j]? = some u → VAt w g (.cell id j) v u ∧ u.oneCell' = true := by
  obtain ⟨c, e, h1, h2, h3, h4⟩ := hh.obj id (.cells (h.ety id) cs) b (H.row_some h0) hb
  subst h4
  exact ⟨c, h1, h2, h3⟩

omit [DS] in
theorem LRel.of_row {cs : List V} {c : Array Value} {id : Nat} (hl : cs.length ≤ c.size) (hr : ∀ j v u, cs[j]? = some v → c[j]? = some u → VAt w g (.cell id j) v u ∧ u.oneCell' = true) : LRel w g.F g.ι (cs.map V.demote) (c.toList.take cs.length) := by
  refine ⟨by simp [hl], fun k x u hx hu => ?_⟩
  rw [List.getElem?_map] at hx
  obtain ⟨v, hv, rfl⟩ := Option.map_eq_some_iff.1 hx
  rw [List.getElem?_take] at hu
  split at hu
  · exact ((hr k v u hv (by simpa using hu)).1).demote
  · cases hu
omit [DS] in
theorem take_drop_take {α : Type} {l : List α} {n off m : Nat} (h : off + m ≤ n) : ((l.take n).drop off).take m = (l.drop off).take m := by
  rw [List.drop_take, List.take_take]
  congr 1
  omega

omit [DS] in
theorem HRel.movedCell (hh : HRel w g h) {id off : Nat} {cs : List V} (h0 : h.row id = some cs) {q : Place} {u : Value} (hq : ∀ id j, q ≠ .cell id j) (hu : ∀ b c e, g.ι[id]? = some b → w.heap[b]? = some (.cells c e (0, 0)) → off < c.size → c[off]? = some u) (hoff : off < cs.length) :
    HRel w (g.move (.cell id off) q u) (h.set id (.cells (h.ety id) (cs.set off (cs.getD off .top).left))) := by
  refine ⟨by rw [Gh.move_ι]; simpa using hh.len, by rw [Gh.move_ι]; exact hh.nodup, fun id' o b ho hb => ?_, fun b hb => ?_, fun b hb => ?_, by rw [Gh.move_F]; exact hh.glob⟩
  · rw [Gh.move_ι] at hb
    by_cases hid : id' = id
    · subst hid
      have ho2 : o = .cells (h.ety id') (cs.set off (cs.getD off .top).left) := by
        rw [List.getElem?_set_self (by have := (List.getElem?_eq_some_iff.1 (H.row_some h0)).1; exact this)] at ho
        exact (Option.some.inj ho).symm
      subst ho2
      obtain ⟨c, h1, h2, h3⟩ := hh.cellsT h0 hb
      refine ⟨c, _, h1, by simpa using h2, fun j v x hv hx => ?_, rfl⟩
      rw [List.getElem?_set] at hv
      by_cases hj : off = j
      · subst hj
        simp only [if_true, hoff, ↓reduceIte, Option.some.injEq] at hv
        subst hv
        have hc := h3 off (cs.getD off .top) x (by simp [List.getD, List.getElem?_eq_getElem hoff]) hx
        exact ⟨hc.1.left', hc.2⟩
      · rw [if_neg hj] at hv
        have hc := h3 j v x hv hx
        exact ⟨hc.1.stays (fun e => hj (by injection e with e1 e2; exact e2.symm)), hc.2⟩
    · rw [List.getElem?_set_ne (fun e => hid e.symm)] at ho
      exact (hh.obj id' o b ho hb).of_vat rfl (fun m bm hbm => ⟨by rw [Gh.move_ι]; exact hbm, .of_eq rfl⟩) (fun h => by rw [Gh.move_F, Gh.move_ι]; exact h) (fun h => h.stays (fun e => hid (by injection e)))
  · rw [Gh.move_ι] at hb
    obtain ⟨h1, h2, h3⟩ := hh.apart b hb
    refine ⟨by rw [Gh.move_F]; exact h1, ?_, h3⟩
    rcases Gh.move_O g (.cell id off) q u b with e | ⟨e, _⟩
    · rw [e]; exact h2
    · rw [h2] at e; cases e
  · obtain ⟨h1, h2⟩ := hh.fresh b hb
    refine ⟨by rw [Gh.move_F]; exact h1, ?_⟩
    rcases Gh.move_O g (.cell id off) q u b with e | ⟨e, _⟩
    · rw [e]; exact h2
    · rw [h2] at e; cases e

theorem FRel.stays (hf : FRel d n a w g env) {p q : Place} {u : Value} (hp : ∀ i, p ≠ .slot d i) : FRel d n a w (g.move p q u) env :=
  ⟨hf.size, fun i => (hf.slot i).stays (fun e => hp i e.symm), hf.defers.move⟩

include P in
theorem load_done (hty : ∀ t, TyOK P t (ty t)) {o : Oper} {t : Nat} {x : V} {xo : Operand} {p : Prop} {v : V} {env' : Env} {h' : H} (ho : o.op = .load t xo)
    (hl : load ty t (tkB tk o.dst) (lnB tk o.dst) x env h = .val p v env' h') (hp : p) (hx : VRel w g.F g.ι x (a.eval xo)) (hf : FRel d n a w g env) (hh : HRel w g h) : OpDone P d n o a w g v env' h' := by
  have hrun : ∀ (b off : Nat) (us : List Value), (0 < (ty t).size) → a.eval xo = .pointer (some ⟨b, off, none⟩) → (∀ (k : Nat) (u : Value), us[k]? = some u → w.cell? ⟨b, off + k, none⟩ = some u) → us.length = (ty t).size →
      (execOp a.eval o).run P w = .ok (.value (if (ty t).agg then .agg us.toArray else us.headD undef)) w := by
    intro b off us hpos he hc hlen
    have := loadVar_run hty hc hlen hpos
    simp [execOp, ho, Instr.loadAt, Instr.sureAddr, he, this]
  unfold load at hl
  split at hl
  · rename_i cs
    simp only [Res.val.injEq] at hl
    obtain ⟨rfl, rfl, rfl, rfl⟩ := hl
    obtain ⟨h1, h2⟩ := hp
    generalize hxu : a.eval xo = xu at hx hrun
    cases hx with
    | imm _ b off vals hv hcov hc ho' hr =>
      have hl : LRel w g.F g.ι cs vals := ⟨hv.symm, hr⟩
      refine OpDone.pure hf hh (hrun b off (vals.take (ty t).size) h2 rfl (fun k u hu => ?_) (by simp; omega)) (val_rel (hl.take _) (by simp; omega) h2)
      rw [List.getElem?_take] at hu
      split at hu
      · exact hc k u hu
      · cases hu
  · rename_i id off
    generalize hxu : a.eval xo = xu at hx hrun
    cases hx with
    | ref _ _ b hid =>
      split at hl
      · rename_i cs hrow
        obtain ⟨c, e, hb, hcs, hcr⟩ := hh.cells hrow hid
        have hL := LRel.of_row hcs hcr
        have hcell : ∀ (m : Nat) (k : Nat) (u : Value), ((c.toList.drop off).take m)[k]? = some u → w.cell? ⟨b, off + k, none⟩ = some u := by
          intro m k u hu
          rw [List.getElem?_take] at hu
          split at hu
          · rw [List.getElem?_drop] at hu
            simpa [World.cell?, hb] using hu
          · cases hu
        have hsz1 : (ty t).agg = false → 0 < (ty t).size → (ty t).size = 1 ∨ True := fun _ _ => .inr trivial
        split at hl
        · rename_i hag
          simp only [Res.val.injEq] at hl
          obtain ⟨rfl, rfl, rfl, rfl⟩ := hl
          obtain ⟨hp1, hp2⟩ := hp
          have hvr : VRel w g.F g.ι ((ty t).val (((cs.map V.demote).drop off).take (ty t).size)) (if (ty t).agg then .agg ((c.toList.drop off).take (ty t).size).toArray else ((c.toList.drop off).take (ty t).size).headD undef) :=
            take_drop_take (l := c.toList) hp1 ▸ val_rel ((hL.drop off).take _) (by simp; omega) hp2
          have e1 : (ty t).val (((cs.map V.demote).drop off).take (ty t).size) = .agg (((cs.drop off).take (ty t).size).map V.demote) := by simp [Ty.val, hag, List.map_take, List.map_drop]
          rw [e1] at hvr
          exact OpDone.pure hf hh (hrun b off _ hp2 rfl (hcell _) (by simp; omega)) hvr
        · rename_i hag
          have hcoff : ∀ hlt : off < cs.length, c[off]? = some (c[off]'(by omega)) := fun hlt => Array.getElem?_eq_getElem (by omega)
          have run1 : ∀ hlt : off < cs.length, (ty t).size = 1 → (execOp a.eval o).run P w = .ok (.value (c[off]'(by omega))) w := by
            intro hlt h1
            have := hrun b off ((c.toList.drop off).take (ty t).size) (by omega) rfl (hcell _) (by simp; omega)
            rw [if_neg (by simpa using hag), h1] at this
            rw [this]
            congr 2
            simp [List.drop_eq_getElem_cons (show off < c.toList.length by simp; omega)]
          split at hl
          · simp only [Res.val.injEq] at hl
            obtain ⟨rfl, rfl, rfl, rfl⟩ := hl
            obtain ⟨hp1, hp2⟩ := hp
            have hc := hcr off (cs.getD off .top) _ (by simp [List.getD, List.getElem?_eq_getElem hp1]) (hcoff hp1)
            cases hd : o.dst with
            | none => rename_i htk; rw [hd] at htk; simp [tkB] at htk
            | some s =>
              refine ⟨_, w, g.move (.cell id off) (.slot d s) (c[off]'(by omega)), .inl (run1 hp1 hp2), move_ext (i := 0) g w _ (.inr ⟨id, off, rfl⟩), hh.movedCell hrow (by simp) (fun b' c' e' hb' hc' hlt' => ?_) hp1, hf.stays (by simp), fun i hi => ?_⟩
              · rw [hid] at hb'; injection hb' with hb'; subst hb'
                rw [hb] at hc'; injection hc' with hc'; injection hc' with hc' _ _; subst hc'
                exact hcoff hp1
              · rw [hd] at hi; injection hi with hi; subst hi
                exact hc.1.moved
          · split at hl
            · simp only [Res.val.injEq] at hl
              obtain ⟨rfl, rfl, rfl, rfl⟩ := hl
              obtain ⟨hp1, hp2⟩ := hp
              have hc := hcr off (cs.getD off .top) _ (by simp [List.getD, List.getElem?_eq_getElem hp1]) (hcoff hp1)
              refine OpDone.pure hf hh (run1 hp1 hp2) ?_
              rw [V.lenOf_left]
              exact hc.1.leftover
            unfold loadN at hl
            split at hl
            · cases hl
            · simp only [Res.val.injEq] at hl
              obtain ⟨rfl, rfl, rfl, rfl⟩ := hl
              obtain ⟨hp1, hp2⟩ := hp
              have hc := hcr off (cs.getD off .top) _ (by simp [List.getD, List.getElem?_eq_getElem hp1]) (hcoff hp1)
              exact OpDone.pure hf hh (run1 hp1 hp2) hc.1.demote
      · cases hl
  · cases hl

omit [DS] in
/-- A cell told otherwise. -/
theorem HRel.retell (hh : HRel w g h) {id off : Nat} {cs : List V} (h0 : h.row id = some cs) {v' : V} (hu : ∀ b c e u, g.ι[id]? = some b → w.heap[b]? = some (.cells c e (0, 0)) → c[off]? = some u → VAt w g (.cell id off) (cs.getD off .top) u → VAt w g (.cell id off) v' u) :
    HRel w g (h.set id (.cells (h.ety id) (cs.set off v'))) := by
  refine ⟨by simpa using hh.len, hh.nodup, fun id' o b ho hb => ?_, hh.apart, hh.fresh, hh.glob⟩
  by_cases hid : id' = id
  · subst hid
    have ho2 : o = .cells (h.ety id') (cs.set off v') := by
      rw [List.getElem?_set_self (by have := (List.getElem?_eq_some_iff.1 (H.row_some h0)).1; exact this)] at ho
      exact (Option.some.inj ho).symm
    subst ho2
    obtain ⟨c, h1, h2, h3⟩ := hh.cellsT h0 hb
    refine ⟨c, _, h1, by simpa using h2, fun j v x hv hx => ?_, rfl⟩
    rw [List.getElem?_set] at hv
    by_cases hj : off = j
    · subst hj
      split at hv
      · split at hv
        · rename_i hlt
          simp only [Option.some.injEq] at hv
          subst hv
          have hc := h3 off (cs.getD off .top) x (by simp [List.getD, List.getElem?_eq_getElem hlt]) hx
          exact ⟨hu b c _ x hb h1 hx hc.1, hc.2⟩
        · cases hv
      · rename_i hne; exact absurd rfl hne
    · rw [if_neg hj] at hv
      exact h3 j v x hv hx
  · rw [List.getElem?_set_ne (fun e => hid e.symm)] at ho
    exact hh.obj id' o b ho hb
omit [DS] in
theorem VAt.tag {p : Place} {o : Option Value} {e sz : Nat} {xs : List V} {u : Value} (hv : VAt w g p (.pri o e sz xs) u) : VAt w g p (.pri (some u) e sz xs) u := by
  rcases hv with hv | ⟨pr', e', sz', xs', b, off, cap, cur, vals, he, hu, r2, r3, r4, r5, r6, r7, r8, r9, r10, r11, hF, hO, _⟩
  · refine .inl ?_
    cases hv
    exact .pri0 _ e sz _ (by rintro u h; exact (Option.some.inj h).symm)
  · cases pr' with
    | none => simp only [rowV] at he; cases he
    | some o' =>
      simp only [rowV, V.pri.injEq] at he
      obtain ⟨_, rfl, rfl, rfl⟩ := he
      exact .inr ⟨some (some u), _, _, _, b, off, cap, cur, vals, rfl, hu, r2, r3, r4, r5, r6, r7, r8, r9, r10, r11, hF, hO, fun o u' ho h => by injection ho with ho; subst ho; injection h with h; exact h.symm⟩
include P in
/-- A copy of a row that nothing covers: the bare value. -/
theorem load_each (hty : ∀ t, TyOK P t (ty t)) {o : Oper} {t : Nat} {x : V} {xo : Operand} {f : Value → Res} (ho : o.op = .load t xo)
    (hl : load ty t (tkB tk o.dst) (lnB tk o.dst) x env h = .each f) (hx : VRel w g.F g.ι x (a.eval xo)) (hf : FRel d n a w g env) (hh : HRel w g h) : ∃ u p v env' h', f u = .val p v env' h' ∧ (p → OpDone P d n o a w g v env' h') := by
  unfold load at hl
  split at hl
  · cases hl
  · rename_i id off
    generalize hxu : a.eval xo = xu at hx
    cases hx with
    | ref _ _ b hid =>
      split at hl
      · rename_i cs hrow
        split at hl
        · cases hl
        · rename_i hag
          split at hl
          · cases hl
          · split at hl
            · cases hl
            unfold loadN at hl
            split at hl
            · rename_i pv o' e sz xs hcell
              simp only [Res.each.injEq] at hl
              subst hl
              obtain ⟨c, e', hb, hcs, hcr⟩ := hh.cells hrow hid
              by_cases hp1 : off < cs.length
              · have hoff : off < c.size := by omega
                refine ⟨c[off], _, _, _, _, rfl, fun hp => ?_⟩
                obtain ⟨_, hp2⟩ := hp
                have hc := hcr off (cs.getD off .top) _ (by simp [List.getD, List.getElem?_eq_getElem hp1]) (Array.getElem?_eq_getElem hoff)
                rw [hcell] at hc
                have hrun : (execOp a.eval o).run P w = .ok (.value c[off]) w := by
                  have := loadVar_run (ty := ty) (t := t) (b := b) (off := off) (us := [c[off]]) (w := w) hty (fun k u hk => by
                    cases k with
                    | zero => simp at hk; subst hk; simp [World.cell?, hb, hoff]
                    | succ k => simp at hk) (by simpa using hp2.symm) (by omega)
                  rw [if_neg (by simpa using hag)] at this
                  simp [execOp, ho, Instr.loadAt, Instr.sureAddr, hxu, this]
                refine ⟨c[off], w, g, .inl hrun, Ext.refl _ _ _, hh.retell hrow (fun b' c' e2 u hb' hc' hu hv => ?_), hf, fun j hj => .inl (.raw _)⟩
                rw [hid] at hb'; injection hb' with hb'; subst hb'
                rw [hb] at hc'; injection hc' with hc'; injection hc' with hc' _ _; subst hc'
                rw [Array.getElem?_eq_getElem hoff] at hu
                injection hu with hu; subst hu
                exact hc.1.tag
              · exact ⟨undef, _, _, _, _, rfl, fun hp => absurd hp.1 hp1⟩
            · cases hl
      · cases hl
  · cases hl

/-! ### Conversions -/
omit [DS] in
theorem toBytes_spec : ∀ {xs : List V} {l : List UInt8}, toBytes xs = some l → xs = l.map byteV
  | [], l, h => by simp [toBytes] at h; subst h; rfl
  | v :: r, l, h => by
    unfold toBytes at h
    split at h
    · rename_i b l' hb hl
      simp only [Option.some.injEq] at h
      subst h
      have := toBytes_spec hl
      subst this
      have hv : v = byteV b := by
        unfold V.toByte at hb
        split at hb
        · split at hb
          · rename_i n hn
            simp only [Option.some.injEq] at hb
            subst hb
            have : (UInt8.ofNat n.toNat).toNat = n.toNat := by
              rw [UInt8.toNat_ofNat']; omega
            simp only [byteV, this]
            congr 1
            omega
          · cases hb
        · cases hb
      rw [hv]; rfl
    · cases h

omit [DS] in
theorem convBytes_run {src dst e : TypeId} (hs : P.underlying src = some (.slice e)) (he : P.underlying e = some (.int .u8)) (hd : P.underlying dst = some .string) {b off cap : Nat} {l : List UInt8}
    (hc : ∀ k (hk : k < l.length), w.cell? ⟨b, off + k, none⟩ = some (.int .u8 (l[k].toNat : Int))) :
    ∃ s : ByteArray, (Go.convert src dst (.slice (some ⟨b, off, none⟩) l.length cap)).run P w = .ok (.string s) w ∧ s.data.toList = l := by
  refine ⟨_, run_convert_bytes_arg (P := P) w src e hs he b off l.length cap (l.map fun x => (x.toNat : Int)) (by simp) (fun i hi => ?_) dst hd, ?_⟩
  · rw [hc i hi]
    simp [List.getD, List.getElem?_eq_getElem hi]
  · rw [strOfNums_data]
    simp only [List.map_map]
    conv => rhs; rw [← List.map_id l]
    apply List.map_congr_left
    intro x _
    simp

end
end Go.Proofs.YtmjohmefhikelaaDoor.Pv
