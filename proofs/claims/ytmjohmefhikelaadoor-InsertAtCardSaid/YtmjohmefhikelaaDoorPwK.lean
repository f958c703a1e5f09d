/- The pure evaluator, part K: new objects, stores, appends. -/
import Derived.Test.YtmjohmefhikelaaDoorPwJ
import Derived.Maps.AppendAt
import Derived.Lib.AppendStr
set_option linter.unusedVariables false
set_option linter.unusedSimpArgs false
namespace Go.Proofs.YtmjohmefhikelaaDoor.Pv
open Go
variable [DS]

section
variable {P : Program} {ty : Nat → Ty} {tk : List Nat} {d n : Nat} {a : Act} {w : World} {g : Gh} {env : Env} {h : H}

omit [DS] in
theorem LRel.toOwn {F : Nat → Nat} {ι : List Nat} {cs : List V} {us : List Value} (hr : LRel w F ι cs us) : LRel w F ι (cs.map V.toOwn) us :=
  ⟨by simp [hr.1], fun k c u hc hu => by
    rw [List.getElem?_map] at hc
    obtain ⟨v, hv, rfl⟩ := Option.map_eq_some_iff.1 hc
    exact (hr.2 k v u hv hu).toOwn⟩

/-- A new row of cells is a new object; of what stands behind it nothing is said. -/
theorem newObjL (hf : FRel d n a w g env) (hh : HRel w g h) {vs : List V} {c : Array Value} {e : TypeId} (hl : sizeOk e c.size vs.length) (hr : LRel w g.F g.ι vs (c.toList.take vs.length)) (h1 : ∀ u ∈ c.toList.take vs.length, u.oneCell' = true) :
    ∃ g', Ext d w g (w.alloc (.cells c e)) g' ∧ HRel (w.alloc (.cells c e)) g' (h ++ [.cells e vs]) ∧ FRel d n a (w.alloc (.cells c e)) g' env ∧ g'.ι[h.length]? = some w.heap.size := by
  have hg := Grow.alloc hh (.cells c e) 0
  refine ⟨(g.cover w.heap.size 0).push w.heap.size, (hg.ext hh).push (Nat.le_refl _), (hg.hrel hh).push (by simp) (by simp [Gh.cover]) ?_ ?_ ?_, (hg.frel hh hf).push _ (by unfold Hid; rw [heap_alloc_new]; simp [hidO]), ?_⟩
  · exact (hh.fresh w.heap.size (Nat.le_refl _)).2
  · intro hm
    have := (hh.apart _ hm).2.2
    omega
  · refine ⟨c, e, heap_alloc_new w _, hl, fun j v u hv hu => ?_, rfl⟩
    have hj : j < vs.length := (List.getElem?_eq_some_iff.1 hv).1
    have hu2 : (c.toList.take vs.length)[j]? = some u := by rw [List.getElem?_take, if_pos hj]; simpa using hu
    exact ⟨.inl (((hr.2 j v u hv hu2).mono (hg.cov hh)).mono (Gh.push_cov _ _ _)), h1 u (List.mem_of_getElem? hu2)⟩
  · show (g.ι ++ [w.heap.size])[h.length]? = some w.heap.size
    rw [← hh.len]; simp
/-- A new row of cells is a new object. -/
theorem newObj (hf : FRel d n a w g env) (hh : HRel w g h) {vs : List V} {c : Array Value} {e : TypeId} (hr : LRel w g.F g.ι vs c.toList) (h1 : ∀ u ∈ c.toList, u.oneCell' = true) :
    ∃ g', Ext d w g (w.alloc (.cells c e)) g' ∧ HRel (w.alloc (.cells c e)) g' (h ++ [.cells e vs]) ∧ FRel d n a (w.alloc (.cells c e)) g' env ∧ g'.ι[h.length]? = some w.heap.size := by
  have hl : vs.length = c.size := by have := hr.1; simpa using this
  have e1 : c.toList.take vs.length = c.toList := by rw [List.take_of_length_le]; simp [hl]
  exact newObjL hf hh (.self hl.symm) (by rw [e1]; exact hr) (by rw [e1]; exact h1)

theorem alloc_done (hty : ∀ t, TyOK P t (ty t)) (hf : FRel d n a w g env) (hh : HRel w g h) {o : Oper} {t : Nat} (ho : o.op = .alloc t) (hz : (ty t).zero.all V.plain = true) (hp : 0 < (ty t).size) :
    OpDone P d n o a w g (.ref h.length 0) env (h ++ [.cells t ((ty t).zero.map V.toOwn)]) := by
  obtain ⟨i, z, hi, hs, hb, hzz, hzm, hzl, hag⟩ := TyOK.get hty hp
  have hzr : LRel w g.F g.ι (ty t).zero z.cells.toList := zms_rel hzm
  obtain ⟨g', h1, h2, h3, h4⟩ := newObj (e := t) hf hh hzr.toOwn (hzr.oneCell hz)
  refine ⟨.pointer (some ⟨w.heap.size, 0, none⟩), _, g', .inl ?_, h1, h2, h3, fun _ _ => .inl (.ref _ _ _ h4)⟩
  simp [execOp, ho, Instr.alloc, zeroValue, typeInfo, hi, hzz, newVar, newRow]

theorem box_done (hf : FRel d n a w g env) (hh : HRel w g h) {o : Oper} {t : Nat} {x : Operand} (ho : o.op = .box t x) (hz : (ev ty env t x).cells.all V.plain = true) :
    OpDone P d n o a w g (.ref h.length 0) env (h ++ [.cells t ((ev ty env t x).cells.map V.toOwn)]) := by
  have hv := (ev_rel (ty := ty) hf t x).cells hz
  obtain ⟨g', h1, h2, h3, h4⟩ := newObj (e := t) hf hh hv.toOwn (hv.oneCell hz)
  refine ⟨.pointer (some ⟨w.heap.size, 0, none⟩), _, g', .inl ?_, h1, h2, h3, fun _ _ => .inl (.ref _ _ _ h4)⟩
  simp [execOp, ho, Instr.box, newVar, newRow]

/-! ### Rows of zero values -/
omit [DS] in
theorem repl_length (z : List V) : ∀ n, (repl z n).length = n * z.length
  | 0 => by simp [repl]
  | n + 1 => by simp [repl, repl_length z n, Nat.add_mul]; omega
omit [DS] in
theorem repl_all {z : List V} (hz : z.all V.plain = true) : ∀ n, (repl z n).all V.plain = true
  | 0 => rfl
  | n + 1 => by simp only [repl, List.all_append, hz, repl_all hz n, Bool.and_self]
def replU (z : List Value) : Nat → List Value
  | 0 => []
  | n + 1 => z ++ replU z n
omit [DS] in
theorem replU_length (z : List Value) : ∀ n, (replU z n).length = n * z.length
  | 0 => by simp [replU]
  | n + 1 => by simp [replU, replU_length z n, Nat.add_mul]; omega
omit [DS] in
theorem replU_get (z : List Value) (hz : 0 < z.length) : ∀ (n i : Nat), i < n * z.length → (replU z n)[i]? = z[i % z.length]?
  | 0, i, h => by simp at h
  | n + 1, i, h => by
    simp only [replU, List.getElem?_append]
    by_cases hi : i < z.length
    · rw [if_pos hi, Nat.mod_eq_of_lt hi]
    · rw [if_neg hi, replU_get z hz n (i - z.length) (by rw [Nat.add_mul] at h; omega)]
      congr 1
      exact (Nat.mod_eq_sub_mod (by omega)).symm
omit [DS] in
theorem LRel.repl {F : Nat → Nat} {ι : List Nat} {z : List V} {zu : List Value} (hr : LRel w F ι z zu) : ∀ n, LRel w F ι (repl z n) (replU zu n)
  | 0 => LRel.nil
  | n + 1 => hr.append (LRel.repl hr n)
omit [DS] in
theorem made_list (z : Array Value) (hz : 0 < z.size) (m : Nat) : ((Array.range (m * z.size)).map (z[· % z.size]!)).toList = replU z.toList m := by
  apply List.ext_getElem?
  intro i
  by_cases hi : i < m * z.size
  · rw [replU_get z.toList (by simpa using hz) m i (by simpa using hi)]
    have hm : i % z.size < z.size := Nat.mod_lt _ hz
    simp [hi, hm]
  · rw [List.getElem?_eq_none (by simp; omega), List.getElem?_eq_none (by rw [replU_length]; simp; omega)]

theorem makeSlice_done (hty : ∀ t, TyOK P t (ty t)) (hf : FRel d n a w g env) (hh : HRel w g h) {o : Oper} {t e : Nat} {l c : Operand} {k k' : IntKind} {m m' : Int} (ho : o.op = .makeSlice t l c) (hk : (ty t).k = .slice e)
    (hl : a.eval l = .int k m) (hc : a.eval c = .int k' m') (hm : 0 ≤ m ∧ m = m') (hz : (ty e).zero.all V.plain = true) (hp : 0 < (ty e).size) (hb : ((ty e).bytes : Int) * m ≤ 140737488355328) (h63 : m ≤ 4611686018427387904) :
    OpDone P d n o a w g (.msl h.length 0 m.toNat (ty e).size) env (h ++ [.cells e (repl ((ty e).zero.map V.toOwn) m.toNat)]) := by
  obtain ⟨i, z, hi, hs, hby, hzz, hzm, hzl, hag⟩ := TyOK.get hty hp
  have hkt := (hty t).k
  rw [hk] at hkt
  have hkt : P.underlying t = some (.slice e) := hkt
  have hzr : LRel w g.F g.ι (ty e).zero z.cells.toList := zms_rel hzm
  have hzs : z.cells.size = (ty e).size := by have := hzr.1; simp at this; omega
  obtain ⟨hm0, rfl⟩ := hm
  have hrun := run_make (P := P) w t e i z hkt hi hzz k k' m m hm0 (Int.le_refl _) (by rw [hby]; omega) (by omega)
  have hlist : (madeCells z.cells (m.toNat * i.size)).toList = replU z.cells.toList m.toNat := by
    rw [hs, ← hzs]; exact made_list z.cells (by omega) _
  have hrr : LRel w g.F g.ι (repl ((ty e).zero.map V.toOwn) m.toNat) (madeCells z.cells (m.toNat * i.size)).toList := by
    rw [hlist]; exact hzr.toOwn.repl _
  obtain ⟨g', h1, h2, h3, h4⟩ := newObj (e := e) hf hh hrr (by
    rw [hlist]; exact (hzr.repl m.toNat).oneCell (repl_all hz _))
  refine ⟨_, _, g', .inl ?_, h1, h2, h3, fun _ _ => .inl (.msl _ _ _ _ m.toNat _ _ (Nat.le_refl _) h4 (fun _ => rfl))⟩
  simp [execOp, ho, hl, hc, hrun]


/-! ### A slice put together -/
include P in
omit [DS] in
theorem agg_size (hty : ∀ t, TyOK P t (ty t)) {t : Nat} (hp : 0 < (ty t).size) (ha : (ty t).agg = false) : (ty t).size = 1 := by
  obtain ⟨i, z, hi, hs, hby, hzz, hzm, hzl, hag⟩ := TyOK.get hty hp
  have hzr : LRel (default : World) (fun _ => 0) [] (ty t).zero z.cells.toList := zms_rel hzm
  have hzs : z.cells.size = (ty t).size := by have := hzr.1; simp at this; omega
  rw [ha] at hag
  cases z <;> simp [Value.cells] at hzs hag <;> omega
omit [DS] in
theorem val_cells {t : Ty} {cs : List V} (hl : cs.length = t.size) (h1 : t.agg = false → t.size = 1) (hp : cs.all V.plain = true) : (t.val cs).cells = cs := by
  unfold Ty.val
  by_cases ha : t.agg = true
  · rw [if_pos ha]; rfl
  · rw [if_neg ha]
    rw [h1 (by simpa using ha)] at hl
    match cs, hl with
    | [c], _ =>
      have : c.plain = true := by simpa using hp
      cases c <;> first | rfl | simp [V.plain] at this
omit [DS] in
theorem chunks_flat {t : Ty} (h1 : t.agg = false → t.size = 1) : ∀ {m : Nat} {cs : List V}, cs.length = m * t.size → cs.all V.plain = true →
    (chunks t m cs).flatMap V.cells = cs ∧ (chunks t m cs).length = m ∧ ∀ x ∈ chunks t m cs, x.cells.length = t.size
  | 0, cs, hl, hp => by
    have : cs = [] := List.eq_nil_of_length_eq_zero (by simpa using hl)
    subst this; simp [chunks]
  | m + 1, cs, hl, hp => by
    rw [Nat.add_mul] at hl
    have hp2 : (cs.take t.size).all V.plain = true := List.all_eq_true.2 fun x hx => List.all_eq_true.1 hp x (List.mem_of_mem_take hx)
    have hp3 : (cs.drop t.size).all V.plain = true := List.all_eq_true.2 fun x hx => List.all_eq_true.1 hp x (List.mem_of_mem_drop hx)
    obtain ⟨i1, i2, i3⟩ := chunks_flat h1 (m := m) (cs := cs.drop t.size) (by simp; omega) hp3
    have hv := val_cells (t := t) (cs := cs.take t.size) (by simp; omega) h1 hp2
    refine ⟨by simp only [chunks, List.flatMap_cons, i1, hv, List.take_append_drop], by simp [chunks, i2], fun x hx => ?_⟩
    simp only [chunks, List.mem_cons] at hx
    rcases hx with rfl | hx
    · rw [hv]; simp; omega
    · exact i3 x hx

omit [DS] in
theorem splice_all {cs new : List V} {off : Nat} (h1 : cs.all V.plain = true) (h2 : new.all V.plain = true) : (splice cs off new).all V.plain = true := by
  unfold splice
  simp only [List.all_append, Bool.and_eq_true]
  exact ⟨List.all_eq_true.2 fun x hx => List.all_eq_true.1 h1 x (List.mem_of_mem_take hx), h2, List.all_eq_true.2 fun x hx => List.all_eq_true.1 h1 x (List.mem_of_mem_drop hx)⟩
omit [DS] in
theorem fill_plain {place : Nat → Option (Nat × Nat × Nat)} : ∀ {parts : List (Nat × Operand)} {p p' : Prop} {cs cs' : List V}, fill ty place env parts p cs = some (p', cs') → p' → cs.all V.plain = true → cs'.all V.plain = true
  | [], p, p', cs, cs', h, hp, hc => by simp only [fill, Option.some.injEq, Prod.mk.injEq] at h; obtain ⟨_, rfl⟩ := h; exact hc
  | (i, x) :: rest, p, p', cs, cs', h, hp, hc => by
    unfold fill at h
    split at h
    · cases h
    · obtain ⟨_, _, _, hpl, _⟩ := fill_p h hp
      exact fill_plain h hp (splice_all hc hpl)

/-- The ghost behind an append: the row's block is covered up to its new end, and is the place q's. -/
def Gh.grown (g : Gh) (b m : Nat) (q : Place) : Gh := { F := fun x => if x = b then m else g.F x, ι := g.ι, O := fun x => if x = b then some q else g.O x }
omit [DS] in
theorem grown_fresh {q : Place} {m : Nat} {c : Array Value} {e : TypeId} (hh : HRel w g h) : Grow w g (w.alloc (.cells c e)) (g.grown w.heap.size m q) := by
  refine ⟨rfl, rfl, rfl, by simp, fun b hb => ⟨heap_alloc_old w _ b hb, by simp [Gh.grown, show ¬ b = w.heap.size by omega], by simp [Gh.grown, show ¬ b = w.heap.size by omega]⟩, rfl, fun b hb => ?_⟩
  have hb2 : w.heap.size + 1 ≤ b := by simpa using hb
  obtain ⟨h1, h2⟩ := hh.fresh b (by omega)
  exact ⟨by simp [Gh.grown, show ¬ b = w.heap.size by omega, h1], by simp [Gh.grown, show ¬ b = w.heap.size by omega, h2]⟩
theorem buildSlice_done (hty : ∀ t, TyOK P t (ty t)) (hf : FRel d n a w g env) (hh : HRel w g h) {o : Oper} {t e m : Nat} {parts : Array (Nat × Operand)} {p : Prop} {cs : List V} (ho : o.op = .buildSlice t m parts) (hk : (ty t).k = .slice e)
    (hfl : fill ty (placeOf ty t) env parts.toList (m * (ty e).size ≤ 16777216 ∧ 0 < (ty e).size ∧ (ty e).zero.all V.plain = true) (repl (ty e).zero m) = some (p, cs)) (hp : p) :
    OpDone P d n o a w g (.sl (ty e).size (chunks (ty e) m cs)) env h ∧ OpDone P d n o a w g (.own e (ty e).size (chunks (ty e) m cs)) env h := by
  obtain ⟨hm24, hpos, hzp⟩ := fill_p hfl hp
  obtain ⟨i, z, hi, hs, hby, hzz, hzm, hzl, hag⟩ := TyOK.get hty hpos
  have hkt := (hty t).k
  rw [hk] at hkt
  have hkt : P.underlying t = some (.slice e) := hkt
  have hzr : LRel w g.F g.ι (ty e).zero z.cells.toList := zms_rel hzm
  have hzs : z.cells.size = (ty e).size := by have := hzr.1; simp at this; omega
  have hpl2 : ∀ i off size u, placeOf ty t i = some (off, size, u) → 0 < size → (fun i => some (i * (ty e).size, (ty e).size) : Nat → Option (Nat × Nat)) i = some (off, size) := by
    intro i off size u hpi hsz
    unfold placeOf at hpi
    rw [hk] at hpi
    simp only [Option.some.injEq, Prod.mk.injEq] at hpi
    obtain ⟨rfl, rfl, rfl⟩ := hpi
    rfl
  have hso := run_sizeOf' hty hpos w
  have hun := und (P := P) hkt w
  have hzv : (zeroValue e).run P w = .ok z w := by simp [zeroValue, typeInfo, hi, hzz]
  -- the cells ahead of the parts
  let us : Array Value := if m * (ty e).size = 0 then #[] else (Array.range (m * (ty e).size)).map (z.cells[· % z.cells.size]!)
  have hus : us.toList = replU z.cells.toList m := by
    by_cases h0 : m * (ty e).size = 0
    · simp only [us, h0, if_true]
      symm
      apply List.eq_nil_of_length_eq_zero
      rw [replU_length]; simp [hzs, h0]
    · simp only [us, h0, if_false]
      rw [← hzs]; exact made_list z.cells (by omega) m
  have hrr : LRel w g.F g.ι (repl (ty e).zero m) us.toList := by rw [hus]; exact hzr.repl m
  obtain ⟨us', h2, h3, h4⟩ := fill_run hpl2 hf hfl hp hrr (hrr.oneCell (repl_all hzp m))
  have hrun : (Instr.buildSlice t m (parts.map fun (i, x) => (i, a.eval x))).run P w = .ok (.slice (some ⟨w.heap.size, 0, none⟩) m m) (w.alloc (.cells us' e)) := by
    have h2' : Instr.fill (fun i => some (i * (ty e).size, (ty e).size)) us (parts.map fun (i, x) => (i, a.eval x)).toList = some us' := by rw [Array.toList_map]; exact h2
    have hnot : ¬ m * (ty e).size > 2 ^ 24 := by omega
    unfold Instr.buildSlice
    simp only [Sem.run_bind, hun, hso, Result.andThen_ok, hnot, if_false, Sem.run_pure]
    by_cases h0 : m * (ty e).size = 0
    · simp only [h0, if_true, Sem.run_pure, Result.andThen_ok, Sem.run_bind]
      have e1 : us = (Array.range 0).map ((#[] : Array Value)[· % (#[] : Array Value).size]!) := by simp [us, h0, Array.range_zero']
      rw [e1] at h2'
      simp only [h2', Sem.run_bind, newRow, Result.andThen_ok, Sem.run_pure]
      simp
    · simp only [h0, if_false, Sem.run_bind, hzv, Result.andThen_ok, Sem.run_pure]
      have e1 : us = (Array.range (m * (ty e).size)).map (z.cells[· % z.cells.size]!) := by simp [us, h0]
      rw [e1] at h2'
      simp only [h2', Sem.run_bind, newRow, Result.andThen_ok, Sem.run_pure]
      simp
  have hcl : cs.length = m * (ty e).size := by
    have hlen : ∀ {parts : List (Nat × Operand)} {p p' : Prop} {cs cs' : List V}, fill ty (placeOf ty t) env parts p cs = some (p', cs') → p' → cs'.length = cs.length := by
      intro parts
      induction parts with
      | nil => intro p p' cs cs' h _; simp only [fill, Option.some.injEq, Prod.mk.injEq] at h; rw [h.2]
      | cons x rest ih =>
        intro p p' cs cs' h hp
        obtain ⟨i, x⟩ := x
        unfold fill at h
        split at h
        · cases h
        · obtain ⟨_, h1, _, _, h2⟩ := fill_p h hp
          rw [ih h hp]
          simp [splice]; omega
    rw [hlen hfl hp, repl_length]; rw [hzl]
  obtain ⟨f1, f2, f3⟩ := chunks_flat (t := ty e) (fun ha => agg_size hty hpos ha) hcl (fill_plain hfl hp (repl_all hzp m))
  have hgr := Grow.alloc hh (.cells us' e) us'.size
  have hex : execOp a.eval o = (do Pure.pure (Next.value (← Instr.buildSlice t m (parts.map fun (i, x) => (i, a.eval x)))) : Sem Next) := by
    unfold execOp; rw [ho]
  constructor
  case right =>
    have hgo := grown_fresh (w := w) (g := g) (h := h) (q := .slot d (o.dst.getD 0)) (m := us'.size) (c := us') (e := e) hh
    refine ⟨.slice (some ⟨w.heap.size, 0, none⟩) m m, w.alloc (.cells us' e), g.grown w.heap.size us'.size (.slot d (o.dst.getD 0)), .inl (by rw [hex]; simp only [Sem.run_bind, hrun, Result.andThen_ok, Sem.run_pure]), hgo.ext hh, hgo.hrel hh, hgo.frel hh hf, fun j hj => .inr ?_⟩
    have h3' := h3.mono (hgo.cov hh)
    have hul : us'.toList.length = (chunks (ty e) m cs).length * (ty e).size := by rw [f2, ← h3.1, hcl]
    have hus : us'.size = m * (ty e).size := by have := hul; rw [f2] at this; simpa using this
    refine ⟨none, e, (ty e).size, chunks (ty e) m cs, w.heap.size, 0, m, us', us'.toList, rfl, by rw [f2], heap_alloc_new w _, by rw [f2]; exact Nat.le_refl _, ?_, by rw [hus, Nat.zero_add], ?_, hul, hpos, f3, h4, ?_, ?_, ?_, fun o' u' ho hu' => by cases ho⟩
    · have : m ≤ m * (ty e).size := Nat.le_mul_of_pos_right _ hpos
      unfold maxLen; omega
    · rw [List.drop_zero, f2, ← hus]
      exact List.take_of_length_le (by simp)
    · rw [f1]; exact h3'
    · simp [Gh.grown, rowF, f2, hus]
    · simp [Gh.grown, hj]
  case left =>
    refine ⟨.slice (some ⟨w.heap.size, 0, none⟩) m m, w.alloc (.cells us' e), g.cover w.heap.size us'.size, .inl (by rw [hex]; simp only [Sem.run_bind, hrun, Result.andThen_ok, Sem.run_pure]), hgr.ext hh, hgr.hrel hh, hgr.frel hh hf, fun _ _ => .inl ?_⟩
    have h3' := h3.mono (hgr.cov hh)
    have hul : us'.toList.length = (chunks (ty e) m cs).length * (ty e).size := by rw [f2, ← h3.1, hcl]
    refine .sl _ _ _ 0 _ _ us'.toList f2.symm (Nat.le_refl _) hpos f3 hul (by simp [Gh.cover]) (fun k u hu => ?_) h4 ?_
    · rw [Nat.zero_add]
      have : (w.alloc (.cells us' e)).heap[w.heap.size]? = some (.cells us' e (0, 0)) := heap_alloc_new w _
      simp only [World.cell?, this]
      simpa using hu
    · rw [f1]; exact h3'.2


/-! ### A write into an object -/
omit [DS] in
theorem Write.cov {b : Nat} {c : Array Value} (hF : g.F b = 0) : Cov w g.F g.ι (w.setRow b c) g.F g.ι :=
  ⟨fun b' off hlt => by
    have : b' ≠ b := fun e => by subst e; omega
    exact World.cell?_of_block (setRow_other w b b' c this), fun _ => Nat.le_refl _, fun _ _ h => h⟩
omit [DS] in
theorem Write.vat {b : Nat} {c : Array Value} (hF : g.F b = 0) (hO : g.O b = none) {p : Place} {v : V} {u : Value} (hv : VAt w g p v u) : VAt (w.setRow b c) g p v u := by
  rcases hv with hv | ⟨pr, e, sz, xs, b', off, cap, cur, vals, rfl, rfl, hb, hcap, hmx, hcs, htk, hvl, hsz, hw, h1, hr, hFb, hOb, htag⟩
  · exact .inl (hv.mono (Write.cov hF))
  · have hne : b' ≠ b := fun e => by subst e; rw [hO] at hOb; cases hOb
    exact .inr ⟨pr, e, sz, xs, b', off, cap, cur, vals, rfl, rfl, by rw [setRow_other w b b' c hne]; exact hb, hcap, hmx, hcs, htk, hvl, hsz, hw, h1, hr.mono (Write.cov hF), hFb, hOb, htag⟩
omit [DS] in
theorem Write.ext {b id : Nat} {c : Array Value} (hF : g.F b = 0) (hid : g.ι[id]? = some b) : Ext d w g (w.setRow b c) g :=
  ⟨rfl, rfl, rfl, by simp [World.setRow], Write.cov hF, fun _ h => .inl h, fun b' hlt hι _ _ => ⟨setRow_other w b b' c (fun e => hι (e ▸ List.mem_of_getElem? hid)), rfl, rfl⟩⟩
theorem Write.frel {b id : Nat} {c : Array Value} (hF : g.F b = 0) (hO : g.O b = none) (hid : g.ι[id]? = some b) (hf : FRel d n a w g env) : FRel d n a (w.setRow b c) g env := ⟨hf.size, fun i => Write.vat hF hO (hf.slot i), hf.defers.ext (Write.ext (d := d) hF hid)⟩
omit [DS] in
theorem MapLe.setRow {w : World} {b bm : Nat} {c c0 : Array Value} {e : Nat} {ff : Nat × Nat} (hb : w.heap[b]? = some (.cells c0 e ff)) : MapLe w (w.setRow b c) bm := by
  by_cases q : bm = b
  · subst q
    intro ces clock hc
    rw [hb] at hc
    cases hc
  · exact .of_eq (setRow_other w b bm c q)
omit [DS] in
theorem Write.hrel {b id : Nat} {c c0 : Array Value} {e : TypeId} {vs : List V} (hh : HRel w g h) (hid : g.ι[id]? = some b) (hb : w.heap[b]? = some (.cells c0 e (0, 0))) (hlt : id < h.length) (hl : sizeOk e c.size vs.length)
    (hv : ∀ (j : Nat) (v : V) (u : Value), vs[j]? = some v → c[j]? = some u → VAt w g (.cell id j) v u ∧ u.oneCell' = true) : HRel (w.setRow b c) g (h.set id (.cells e vs)) := by
  obtain ⟨hF, hO, hbl⟩ := hh.apart b (List.mem_of_getElem? hid)
  refine ⟨by simpa using hh.len, hh.nodup, fun id' o b' ho hb' => ?_, fun b' hb' => ?_, fun b' hb' => hh.fresh b' (by simpa [World.setRow] using hb'), hh.glob.cov (Write.cov hF)⟩
  · by_cases hii : id' = id
    · subst hii
      rw [hid] at hb'; injection hb' with hb'; subst hb'
      rw [List.getElem?_set_self hlt] at ho
      injection ho with ho; subst ho
      exact ⟨c, e, setRow_heap w b c0 c e (0, 0) hb, hl, fun j v u h1 h2 => ⟨Write.vat hF hO (hv j v u h1 h2).1, (hv j v u h1 h2).2⟩, rfl⟩
    · rw [List.getElem?_set_ne (fun e => hii e.symm)] at ho
      have hne : b' ≠ b := by
        intro e; subst e
        exact hii ((List.getElem?_inj (List.getElem?_eq_some_iff.1 hb').1 hh.nodup).1 (hb'.trans hid.symm))
      exact (hh.obj id' o b' ho hb').of_vat (setRow_other w b b' c hne) (fun m bm hbm => ⟨hbm, .setRow hb⟩) (fun h => h.mono (Write.cov hF)) (fun h => Write.vat hF hO h)
  · obtain ⟨h1, h2, h3⟩ := hh.apart b' hb'
    exact ⟨h1, h2, by simpa [World.setRow] using h3⟩

/-- A store into an object's cells, the ghost having been turned. -/
theorem store_core (hty : ∀ t, TyOK P t (ty t)) {o : Oper} {t : Nat} {xa xv : Operand} {id off : Nat} {v0 : V} {cs : List V} {env' : Env} {g1 : Gh} (ho : o.op = .store t xa xv)
    (hrow : h.row id = some cs) (hlen : v0.cells.length = (ty t).size) (hpos : 0 < (ty t).size) (hfit : off + (ty t).size ≤ cs.length) (hpv : VRel w g.F g.ι (.ref id off) (a.eval xa))
    (hx : Ext d w g w g1) (hι : g1.ι = g.ι) (hh : HRel w g1 h) (hf : FRel d n a w g1 env') (hul : (a.eval xv).cells.toList.length = v0.cells.length)
    (hc : ∀ (j : Nat) (c : V) (u : Value), v0.cells[j]? = some c → (a.eval xv).cells.toList[j]? = some u → VAt w g1 (.cell id (off + j)) c u ∧ u.oneCell' = true) :
    OpDone P d n o a w g .top env' (h.set id (.cells (h.ety id) (splice cs off (v0.cells.map V.toOwn)))) := by
  generalize hxu : a.eval xa = xu at hpv
  cases hpv with
  | ref _ _ b hid =>
    rw [← hι] at hid
    obtain ⟨c, hb, hcs0, hcr⟩ := hh.cellsT hrow hid
    have hcs := hcs0.1
    obtain ⟨hF, hO, hbl⟩ := hh.apart b (List.mem_of_getElem? hid)
    have h1 : ∀ u ∈ (a.eval xv).cells.toList, u.oneCell' = true := by
      intro u hu
      obtain ⟨j, hj, rfl⟩ := List.mem_iff_getElem.1 hu
      exact (hc j (v0.cells[j]'(by omega)) _ (List.getElem?_eq_getElem _) (List.getElem?_eq_getElem hj)).2
    have hso := run_sizeOf' hty hpos w
    have hst := run_storeCells_at P b off (h.ety id) (a.eval xv).cells.toList 0 c w hb (by omega) h1
    simp only [Nat.add_zero] at hst
    have hcsz : (a.eval xv).cells.size = (ty t).size := by rw [← hlen, ← hul]; simp
    refine ⟨undef, w.setRow b (c.toList.take off ++ (a.eval xv).cells.toList ++ c.toList.drop (off + (a.eval xv).cells.toList.length)).toArray, g1, .inr ⟨?_, rfl⟩, hx.trans (Write.ext hF hid), Write.hrel hh hid hb (List.getElem?_eq_some_iff.1 (H.row_some hrow)).1 ?_ (fun j v u hv hu => ?_), Write.frel hF hO hid hf, fun _ _ => .inl (.top _)⟩
    · simp [execOp, ho, Instr.storeAt, Instr.sureAddr, hxu, storeVar, hso, hcsz, hst]
    · refine ⟨by simp [splice]; omega, fun hlo => ?_⟩
      have := hcs0.2 hlo
      simp [splice]; omega
    · unfold splice at hv
      simp only [List.getElem?_toArray, List.append_assoc] at hu
      rw [List.getElem?_append] at hv hu
      have hl1 : (cs.take off).length = off := by simp; omega
      have hl2 : (c.toList.take off).length = off := by simp; omega
      rw [hl1] at hv; rw [hl2] at hu
      split at hv
      · rename_i hj
        rw [if_pos hj] at hu
        rw [List.getElem?_take, if_pos hj] at hv hu
        exact hcr j v u hv (by simpa using hu)
      · rename_i hj
        rw [if_neg hj] at hu
        rw [List.getElem?_append] at hv hu
        have hl3 : (v0.cells.map V.toOwn).length = v0.cells.length := by simp
        rw [hl3] at hv
        split at hv
        · rename_i hj2
          rw [if_pos (by omega)] at hu
          rw [List.getElem?_map] at hv
          obtain ⟨v1, hv1, rfl⟩ := Option.map_eq_some_iff.1 hv
          have := hc (j - off) v1 u hv1 hu
          rw [show off + (j - off) = j by omega] at this
          exact ⟨this.1.toOwn, this.2⟩
        · rename_i hj2
          rw [if_neg (by omega)] at hu
          rw [List.getElem?_drop] at hv hu
          have e1 : off + v0.cells.length + (j - off - v0.cells.length) = j := by omega
          have e2 : off + (a.eval xv).cells.toList.length + (j - off - (a.eval xv).cells.toList.length) = j := by omega
          rw [e1] at hv
          rw [e2] at hu
          exact hcr j v u hv (by simpa using hu)

theorem store_done (hty : ∀ t, TyOK P t (ty t)) {o : Oper} {t : Nat} {xa xv : Operand} {pv : V} {p : Prop} {v : V} {env' : Env} {h' : H} (ho : o.op = .store t xa xv)
    (hs : store ty t pv (ev ty env t xv) env h = .val p v env' h') (hp : p) (hpv : VRel w g.F g.ι pv (a.eval xa)) (hf : FRel d n a w g env) (hh : HRel w g h) : OpDone P d n o a w g v env' h' := by
  unfold store at hs
  split at hs
  · rename_i id off
    split at hs
    · rename_i cs hrow
      simp only [Res.val.injEq] at hs
      obtain ⟨rfl, rfl, rfl, rfl⟩ := hs
      obtain ⟨hlen, hpos, hfit, hpl⟩ := hp
      have hl := (ev_rel (ty := ty) hf t xv).cells hpl
      refine store_core hty ho hrow hlen hpos hfit hpv (Ext.refl _ _ _) rfl hh hf hl.1.symm (fun j c u hc hu => ⟨.inl (hl.2 j c u hc hu), hl.oneCell hpl u (List.mem_of_getElem? hu)⟩)
    · cases hs
  · cases hs

theorem storeTmp_done (hty : ∀ t, TyOK P t (ty t)) {o : Oper} {t i : Nat} {xa : Operand} {pv : V} {p : Prop} {v : V} {env' : Env} {h' : H} (ho : o.op = .store t xa (.tmp i))
    (hs : store ty t pv (env.get i) (env.put i (env.get i).demote) h = .val p v env' h') (hp : p) (hpv : VRel w g.F g.ι pv (a.eval xa)) (hf : FRel d n a w g env) (hh : HRel w g h) : OpDone P d n o a w g v env' h' := by
  unfold store at hs
  split at hs
  · rename_i id off
    split at hs
    · rename_i cs hrow
      simp only [Res.val.injEq] at hs
      obtain ⟨rfl, rfl, rfl, rfl⟩ := hs
      obtain ⟨hlen, hpos, hfit, hpl⟩ := hp
      have hslot := hf.slot i
      have hcase : (a.eval (.tmp i)).cells.toList.length = (env.get i).cells.length ∧ ∀ (j : Nat) (c : V) (u : Value), (env.get i).cells[j]? = some c → (a.eval (.tmp i)).cells.toList[j]? = some u →
          VAt w (g.move (.slot d i) (.cell id off) (a.eval (.tmp i))) (.cell id (off + j)) c u ∧ u.oneCell' = true := by
        have hslot' : VAt w g (.slot d i) (env.get i) (a.eval (.tmp i)) := hslot
        rcases hslot with hv | hv
        · have hl := VRel.cells hv hpl
          exact ⟨hl.1.symm, fun j c u hc hu => ⟨.inl (by rw [Gh.move_F, Gh.move_ι]; exact hl.2 j c u hc hu), hl.oneCell hpl u (List.mem_of_getElem? hu)⟩⟩
        · obtain ⟨pr, e, sz, xs, b, off, cap, cur, vals, he, hu, rest⟩ := hv
          have hu' : a.eval (.tmp i) = .slice (some ⟨b, off, none⟩) xs.length cap := hu
          have hcells : (env.get i).cells = [env.get i] := by rw [he]; cases pr <;> rfl
          refine ⟨by rw [hu', hcells]; rfl, fun j c u hc hu2 => ?_⟩
          rw [hcells] at hc
          rw [hu'] at hu2
          match j with
          | 0 =>
            simp only [List.getElem?_cons_zero, Option.some.injEq] at hc
            simp only [Value.cells, List.getElem?_cons_zero, Option.some.injEq] at hu2
            subst hc; subst hu2
            rw [← hu']
            exact ⟨hslot'.moved, by rw [hu']; rfl⟩
          | j + 1 => simp at hc
      exact store_core hty ho hrow hlen hpos hfit hpv (move_ext g w _ (.inl rfl)) (Gh.move_ι _ _ _ _) (hh.moved (by simp)) hf.moved hcase.1 hcase.2
    · cases hs
  · cases hs


/-! ### append -/

omit [DS] in
theorem own_row {p : Place} {pr : Option (Option Value)} {e sz : Nat} {xs : List V} {u : Value} (hv : VAt w g p (rowV pr e sz xs) u) : (∃ a, u = .slice a 0 0 ∧ xs = []) ∨
    ∃ b off cap cur vals, u = .slice (some ⟨b, off, none⟩) xs.length cap ∧ w.heap[b]? = some (.cells cur e (0, 0)) ∧ xs.length ≤ cap ∧ cap ≤ maxLen ∧ cur.size = off + cap * sz ∧ (cur.toList.drop off).take (xs.length * sz) = vals ∧ vals.length = xs.length * sz ∧ 0 < sz ∧
      (∀ x ∈ xs, x.cells.length = sz) ∧ (∀ u ∈ vals, u.oneCell' = true) ∧ LRel w g.F g.ι (xs.flatMap V.cells) vals ∧ g.F b = off + rowF pr (xs.length * sz) ∧ g.O b = some p := by
  rcases hv with hv | ⟨pr', e', sz', xs', b, off, cap, cur, vals, he, r1, r2, r3, r4, r5, r6, r7, r8, r9, r10, r11, hF, hO, _⟩
  · cases pr with
    | none => simp only [rowV] at hv; cases hv; exact .inl ⟨_, rfl, rfl⟩
    | some o => simp only [rowV] at hv; cases hv; exact .inl ⟨_, rfl, rfl⟩
  · have he' : e' = e ∧ sz' = sz ∧ xs' = xs ∧ rowF pr' (xs'.length * sz') = rowF pr (xs.length * sz) := by
      cases pr with
      | none =>
        cases pr' with
        | none => simp only [rowV, V.own.injEq] at he; obtain ⟨rfl, rfl, rfl⟩ := he; exact ⟨rfl, rfl, rfl, rfl⟩
        | some o' => simp only [rowV] at he; cases he
      | some o =>
        cases pr' with
        | none => simp only [rowV] at he; cases he
        | some o' => simp only [rowV, V.pri.injEq] at he; obtain ⟨_, rfl, rfl, rfl⟩ := he; exact ⟨rfl, rfl, rfl, rfl⟩
    obtain ⟨rfl, rfl, rfl, hFF⟩ := he'
    exact .inr ⟨b, off, cap, cur, vals, r1, r2, r3, r4, r5, r6, r7, r8, r9, r10, r11, by rw [hF, hFF], hO⟩
omit [DS] in
/-- Its bare value may have turned. -/
theorem VAt.untag {p : Place} {pr : Option (Option Value)} {e sz : Nat} {xs : List V} {u : Value} (hv : VAt w g p (rowV pr e sz xs) u) : VAt w g p (rowV (pr.map fun _ => none) e sz xs) u := by
  cases pr with
  | none => exact hv
  | some o =>
    rcases hv with hv | ⟨pr', e', sz', xs', b, off, cap, cur, vals, he, r1, r2, r3, r4, r5, r6, r7, r8, r9, r10, r11, hF, hO, _⟩
    · refine .inl ?_
      simp only [rowV, Option.map_some] at hv ⊢
      cases hv
      exact .pri0 none e sz _ (by simp)
    · cases pr' with
      | none => simp only [rowV] at he; cases he
      | some o' =>
        simp only [rowV, V.pri.injEq] at he
        obtain ⟨_, rfl, rfl, rfl⟩ := he
        exact .inr ⟨some none, _, _, _, b, off, cap, cur, vals, rfl, r1, r2, r3, r4, r5, r6, r7, r8, r9, r10, r11, hF, hO, fun o u' ho h => by injection ho with ho; subst ho; cases h⟩
omit [DS] in
theorem rowF_le (pr : Option (Option Value)) {n m : Nat} (h : n ≤ m) : rowF pr n ≤ rowF pr m := by cases pr <;> simp [rowF, h]
omit [DS] in
theorem rowF_map (pr : Option (Option Value)) (f : Option Value → Option Value) (n : Nat) : rowF (pr.map f) n = rowF pr n := by cases pr <;> rfl
omit [DS] in
theorem rowF_self (pr : Option (Option Value)) (n : Nat) : rowF pr n ≤ n := by cases pr <;> simp [rowF]

omit [DS] in
/-- Nothing is appended. -/
theorem append_none {t t' r e : TypeId} {i : TypeInfo} (ht : P.underlying t = some (.slice e)) (hi : P.info? e = some i) {d' : TypeDesc} (ht' : P.underlying t' = some d') (hd' : ∀ k, d' ≠ .int k) {b : Option Addr} {m cap : Nat} (hc : m ≤ cap) {b' : Option Addr} {cap' : Nat} :
    (Builtin.append_ #[t, t'] r #[.slice b m cap, .slice b' 0 cap']).run P w = .ok (.slice b m cap) w := by
  have hu := und (P := P) ht w
  have hu' := und (P := P) ht' w
  have hz : (match d' with | .int _ => true | _ => false) = false := by
    cases d' <;> first | rfl | exact absurd rfl (hd' _)
  cases b' with
  | none => cases b <;> simp [Builtin.append_, underlying, ht, ht', hz, sizeOf, typeInfo, hi, Builtin.lenOf, Builtin.firstCells, hc, storeCells]
  | some a => cases b <;> simp [Builtin.append_, underlying, ht, ht', hz, sizeOf, typeInfo, hi, Builtin.lenOf, Builtin.firstCells, hc, storeCells, loadCells, loadCellsFrom]

/-- The row is written on, in place. -/
theorem grown_room {s : Nat} {q : Place} {b m : Nat} {c c0 : Array Value} {e : TypeId} (hh : HRel w g h) (hf : FRel d n a w g env) (hb : w.heap[b]? = some (.cells c0 e (0, 0))) (hO : g.O b = some (.slot d s)) (hm : g.F b ≤ m)
    (hc : ∀ k, k < g.F b → c[k]? = c0[k]?) :
    Ext d w g (w.setRow b c) (g.grown b m q) ∧ HRel (w.setRow b c) (g.grown b m q) h ∧ FRel d n a (w.setRow b c) (g.grown b m q) (env.put s (env.get s).demote) := by
  have hcov : Cov w g.F g.ι (w.setRow b c) (g.grown b m q).F (g.grown b m q).ι := by
    refine ⟨fun b' off hlt => ?_, fun b' => ?_, fun _ _ h => h⟩
    · by_cases hbb : b' = b
      · subst hbb
        simp only [World.cell?, setRow_heap w b' c0 c e (0, 0) hb, hb]
        exact hc off hlt
      · exact World.cell?_of_block (setRow_other w b b' c hbb)
    · simp only [Gh.grown]
      split
      · rename_i he; subst he; exact hm
      · exact Nat.le_refl _
  have hvat : ∀ {p : Place} {v : V} {u : Value}, p ≠ .slot d s → VAt w g p v u → VAt (w.setRow b c) (g.grown b m q) p v u := by
    intro p v u hp hv
    rcases hv with hv | ⟨pr, e', sz, xs, b', off, cap, cur, vals, rfl, rfl, hb', hcap, hmx, hcs, htk, hvl, hsz, hw, h1, hr, hFb, hOb, htag⟩
    · exact .inl (hv.mono hcov)
    · have hne : b' ≠ b := fun e => by subst e; rw [hO] at hOb; injection hOb with hOb; exact hp hOb.symm
      exact .inr ⟨pr, e', sz, xs, b', off, cap, cur, vals, rfl, rfl, by rw [setRow_other w b b' c hne]; exact hb', hcap, hmx, hcs, htk, hvl, hsz, hw, h1, hr.mono hcov, by simp [Gh.grown, hne, hFb], by simp [Gh.grown, hne, hOb], htag⟩
  refine ⟨⟨rfl, rfl, rfl, by simp [World.setRow], hcov, fun _ h => .inl h, fun b' hlt hι hcl hs => ?_⟩, ⟨hh.len, hh.nodup, fun id o b' ho hb' => ?_, fun b' hb' => ?_, fun b' hb' => ?_, hh.glob.cov hcov⟩, ⟨hf.size, fun j => ?_, hf.defers.to fun D _ h2 h3 h4 _ => have hne : D ≠ b := fun e => by subst e; rw [hO] at h3; cases h3
    ⟨setRow_other w b D c hne, h2, by simp only [Gh.grown]; rw [if_neg hne]; exact h3, by simp only [Gh.grown]; rw [if_neg hne]; exact h4⟩⟩⟩
  · have hne : b' ≠ b := fun e => by subst e; exact hs d s (Nat.le_refl _) hO
    exact ⟨setRow_other w b b' c hne, by simp [Gh.grown, hne], by simp [Gh.grown, hne]⟩
  · have hne : b' ≠ b := fun e => by subst e; have := (hh.apart b' (List.mem_of_getElem? hb')).2.1; rw [hO] at this; cases this
    exact (hh.obj id o b' ho hb').of_vat (setRow_other w b b' c hne) (fun (m' bm : Nat) (hbm : g.ι[m']? = some bm) => ⟨show (g.grown b m q).ι[m']? = some bm from hbm, .of_eq (setRow_other w b bm c fun e => by subst e; have := (hh.apart bm (List.mem_of_getElem? hbm)).2.1; rw [hO] at this; cases this)⟩) (fun h => h.mono hcov) (fun h => hvat (by simp) h)
  · obtain ⟨h1, h2, h3⟩ := hh.apart b' hb'
    have hne : b' ≠ b := fun e => by subst e; rw [hO] at h2; cases h2
    exact ⟨by simp [Gh.grown, hne, h1], by simp [Gh.grown, hne, h2], by simpa [World.setRow] using h3⟩
  · have hb2 : w.heap.size ≤ b' := by simpa [World.setRow] using hb'
    have hne : b' ≠ b := fun e => by subst e; have := (Array.getElem?_eq_some_iff.1 hb).1; omega
    obtain ⟨h1, h2⟩ := hh.fresh b' hb2
    exact ⟨by simp [Gh.grown, hne, h1], by simp [Gh.grown, hne, h2]⟩
  · rw [Env.get_put]
    by_cases hj : j = s
    · subst hj; rw [if_pos rfl]; exact .inl ((hf.slot j).demote.mono hcov)
    · rw [if_neg hj]; exact hvat (fun e => hj (by injection e)) (hf.slot j)

omit [DS] in
/-- The row is laid anew. -/
theorem grown_new {q : Place} {m : Nat} {c : Array Value} {e : TypeId} (hh : HRel w g h) : Grow w g (w.drew.alloc (.cells c e)) (g.grown w.heap.size m q) := by
  refine ⟨rfl, rfl, rfl, by simp, fun b hb => ⟨heap_alloc_old w.drew _ b hb, by simp [Gh.grown, show ¬ b = w.heap.size by omega], by simp [Gh.grown, show ¬ b = w.heap.size by omega]⟩, rfl, fun b hb => ?_⟩
  have hb2 : w.heap.size + 1 ≤ b := by simpa using hb
  obtain ⟨h1, h2⟩ := hh.fresh b (by omega)
  exact ⟨by simp [Gh.grown, show ¬ b = w.heap.size by omega, h1], by simp [Gh.grown, show ¬ b = w.heap.size by omega, h2]⟩

omit [DS] in
theorem append_types {t t' r e : TypeId} {args : Array Value} (ht : P.underlying t = some (.slice e)) (ht' : P.underlying t' = some (.slice e)) :
    (Builtin.append_ #[t, t'] r args).run P w = (Builtin.append_ #[t, t] r args).run P w := by
  have hu := fun w => und (P := P) ht w
  have hu' := fun w => und (P := P) ht' w
  unfold Builtin.append_
  simp only [List.getElem?_toArray, List.getElem?_cons_zero, List.getElem?_cons_succ]
  cases h0 : args[0]? with
  | none => rfl
  | some s =>
    cases h1 : args[1]? with
    | none => rfl
    | some x =>
      simp only [Sem.run_bind, hu, Result.andThen_ok]
      cases s <;> first | rfl | skip
      simp only [Sem.run_bind]
      congr 1
      funext size w'
      simp only [Sem.run_bind, hu, hu', Result.andThen_ok]

omit [DS] in
/-- An append with room, onto a slice that begins anywhere in its row. -/
theorem run_append_room_off (w : World) (t ty e : TypeId) (i : TypeInfo) (ht : P.underlying t = some (.slice e)) (hi : P.info? e = some i)
    (g off sLen sCap : Nat) (cur : Array Value) (hg : w.heap[g]? = some (.cells cur e (0, 0)))
    (a : Addr) (m c : Nat) (news : List Value) (hl : news.length = m * i.size) (hnews : ∀ (j : Nat) (u : Value), news[j]? = some u → w.cell? (a.add j) = some u) (h1 : ∀ u ∈ news, u.oneCell' = true)
    (hroom : sLen + m ≤ sCap) (hfit : off + sLen * i.size + news.length ≤ cur.size) :
    (Builtin.append_ #[t, t] ty #[.slice (some ⟨g, off, none⟩) sLen sCap, .slice (some a) m c]).run P w =
      .ok (.slice (some ⟨g, off, none⟩) (sLen + m) sCap) (w.setRow g (cur.toList.take (off + sLen * i.size) ++ news ++ cur.toList.drop (off + sLen * i.size + news.length)).toArray) := by
  have hf := run_firstCells_some (P := P) w i.size m a m c news hl hnews
  have hst := run_storeCells_at P g (off + sLen * i.size) e news 0 cur w hg (by simpa using hfit) h1
  simp only [Nat.add_zero] at hst
  have hu := und (P := P) ht w
  simp [Builtin.append_, hu, sizeOf, typeInfo, hi, Builtin.lenOf, hroom, hf, Addr.add_lit, hst]
omit [DS] in
theorem run_append_room_string_off (w : World) (t u ty e : TypeId) (i : TypeInfo) (ht : P.underlying t = some (.slice e)) (hu : P.underlying u = some .string) (hi : P.info? e = some i) (hs1 : i.size = 1)
    (g off sLen sCap : Nat) (cur : Array Value) (hg : w.heap[g]? = some (.cells cur e (0, 0))) (s : ByteArray)
    (hroom : sLen + s.size ≤ sCap) (hfit : off + sLen + s.size ≤ cur.size) :
    (Builtin.append_ #[t, u] ty #[.slice (some ⟨g, off, none⟩) sLen sCap, .string s]).run P w =
      .ok (.slice (some ⟨g, off, none⟩) (sLen + s.size) sCap) (w.setRow g (cur.toList.take (off + sLen) ++ Lib.strCells s ++ cur.toList.drop (off + sLen + s.size)).toArray) := by
  have hf := Lib.run_firstCells_string (P := P) w 1 s
  have hst := run_storeCells_at P g (off + sLen) e (Lib.strCells s) 0 cur w hg (by simpa [Lib.strCells_length] using hfit) (Lib.strCells_oneCell s)
  simp only [Nat.add_zero, Lib.strCells_length] at hst
  have hut := und (P := P) ht w
  have huu := und (P := P) hu w
  simp [Builtin.append_, hut, huu, sizeOf, typeInfo, hi, hs1, Builtin.lenOf, hroom, hf, Addr.add_lit, hst]

/-- What an append takes: so many cells, and what it then does. -/
structure AppSrc (P : Program) (w : World) (g : Gh) (t t' r e : TypeId) (i : TypeInfo) (z : Value) (ys : List V) (xu : Value) (news : List Value) : Prop where
  len : news.length = ys.length * i.size
  one : ∀ u ∈ news, u.oneCell' = true
  wide : ∀ y ∈ ys, y.cells.length = i.size
  rel : LRel w g.F g.ι (ys.flatMap V.cells) news
  nil : (ys.length : Int) ≤ 9223372036854775807 → ys.length * i.bytes ≤ 281474976710656 → (Builtin.append_ #[t, t'] r #[.slice none 0 0, xu]).run P w =
      .ok (.slice (some ⟨w.heap.size, 0, none⟩) ys.length (grownCap w ys.length 0 e)) (w.drew.alloc (.cells (news.toArray ++ Builtin.zeroCells z.cells (grownCap w ys.length 0 e - ys.length)) e))
  room : ∀ (b off sLen sCap : Nat) (cur : Array Value), w.heap[b]? = some (.cells cur e (0, 0)) → sLen + ys.length ≤ sCap → off + sLen * i.size + news.length ≤ cur.size →
    (Builtin.append_ #[t, t'] r #[.slice (some ⟨b, off, none⟩) sLen sCap, xu]).run P w =
      .ok (.slice (some ⟨b, off, none⟩) (sLen + ys.length) sCap) (w.setRow b (cur.toList.take (off + sLen * i.size) ++ news ++ cur.toList.drop (off + sLen * i.size + news.length)).toArray)
  grow : ∀ (b : Addr) (sLen sCap : Nat) (olds : List Value), olds.length = sLen * i.size → (∀ (j : Nat) (v : Value), olds[j]? = some v → w.cell? (b.add j) = some v) → sCap < sLen + ys.length → ((sLen + ys.length : Nat) : Int) ≤ 9223372036854775807 →
    Builtin.nextslicecap (sLen + ys.length) sCap * i.bytes ≤ 281474976710656 →
    (Builtin.append_ #[t, t'] r #[.slice (some b) sLen sCap, xu]).run P w =
      .ok (.slice (some ⟨w.heap.size, 0, none⟩) (sLen + ys.length) (grownCap w (sLen + ys.length) sCap e))
        (w.drew.alloc (.cells (olds.toArray ++ news.toArray ++ Builtin.zeroCells z.cells (grownCap w (sLen + ys.length) sCap e - (sLen + ys.length))) e))

omit [DS] in
theorem AppSrc.ofSlice {t t' r e : TypeId} {i : TypeInfo} {z : Value} (ht : P.underlying t = some (.slice e)) (ht' : P.underlying t' = some (.slice e)) (hi : P.info? e = some i) (hzz : i.zero = some z) {sz' : Nat} (hsz' : sz' = i.size) {ys : List V} {xu : Value} (hx : VRel w g.F g.ι (.sl sz' ys) xu) (hys : ys ≠ []) :
    ∃ news, AppSrc P w g t t' r e i z ys xu news := by
  obtain ⟨xa, xcap, rfl, hcase⟩ := hx.flat
  rcases hcase with hn | ⟨_, xb, xoff, news, rfl, _, hxw, hxl, hxcov, hxc, hx1, hxr⟩
  · exact absurd hn hys
  · subst hsz'
    have hlen0 : 0 < ys.length := List.length_pos_iff.2 hys
    have hnews : ∀ (j : Nat) (v : Value), news[j]? = some v → w.cell? ((⟨xb, xoff, none⟩ : Addr).add j) = some v := fun j v hj => by rw [Addr.add_lit]; exact hxc j v hj
    exact ⟨news, hxl, hx1, hxw, hxr,
      fun h1 h2 => by rw [append_types ht ht']; exact run_append_nil (P := P) w t r e i z ht hi hzz ⟨xb, xoff, none⟩ ys.length xcap news hxl hnews hlen0 h1 h2,
      fun b off sLen sCap cur hb h1 h2 => by rw [append_types ht ht']; exact run_append_room_off (P := P) w t r e i ht hi b off sLen sCap cur hb ⟨xb, xoff, none⟩ ys.length xcap news hxl hnews hx1 h1 h2,
      fun b sLen sCap olds h0 h1 h2 h3 h4 => by rw [append_types ht ht']; exact run_append_grow (P := P) w t r e i z ht hi hzz b sLen sCap olds h0 h1 ⟨xb, xoff, none⟩ ys.length xcap news hxl hnews h2 h3 h4⟩

omit [DS] in
theorem strCells_byteV (s : List UInt8) : Lib.strCells ⟨s.toArray⟩ = s.map fun b => Value.int .u8 b.toNat := by simp [Lib.strCells]
omit [DS] in
theorem byteV_cells (s : List UInt8) : (s.map byteV).flatMap V.cells = s.map byteV := by
  induction s with
  | nil => rfl
  | cons c s ih => simp only [List.map_cons, List.flatMap_cons, ih]; rfl
omit [DS] in
theorem byteV_rel (s : List UInt8) : LRel w g.F g.ι (s.map byteV) (s.map fun b => Value.int .u8 b.toNat) := by
  refine ⟨by simp, fun k c u hc hu => ?_⟩
  rw [List.getElem?_map] at hc hu
  cases hs : s[k]? with
  | none => rw [hs] at hc; cases hc
  | some b =>
    rw [hs] at hc hu
    simp only [Option.map_some, Option.some.injEq] at hc hu
    subst hc; subst hu
    exact .int _ _

omit [DS] in
theorem AppSrc.ofStr {t t' r e : TypeId} {i : TypeInfo} {z : Value} (ht : P.underlying t = some (.slice e)) (ht' : P.underlying t' = some .string) (hi : P.info? e = some i) (hzz : i.zero = some z) (hs1 : i.size = 1) (s : List UInt8) (hs : s ≠ []) :
    AppSrc P w g t t' r e i z (s.map byteV) (.string ⟨s.toArray⟩) (s.map fun b => Value.int .u8 b.toNat) := by
  have hsz : (⟨s.toArray⟩ : ByteArray).size = s.length := by simp [ByteArray.size]
  have h0 : 0 < s.length := List.length_pos_iff.2 hs
  refine ⟨by simp [hs1], fun u hu => ?_, fun y hy => ?_, by rw [byteV_cells]; exact byteV_rel s, fun h1 h2 => ?_, fun b off sLen sCap cur hb h1 h2 => ?_, fun b sLen sCap olds h0 h1 h2 h3 h4 => ?_⟩
  · simp only [List.mem_map] at hu
    obtain ⟨b, _, rfl⟩ := hu
    rfl
  · simp only [List.mem_map] at hy
    obtain ⟨b, _, rfl⟩ := hy
    rw [hs1]; rfl
  · have h := run_append_nil_string (P := P) w t t' r e i z ht ht' hi hzz ⟨s.toArray⟩ (by rw [hsz]; exact h0) (by rw [hsz]; simpa using h1) (by rw [hsz]; simpa using h2)
    simp only [hsz] at h
    simp only [List.length_map]
    rw [h]
    simp
  · simp only [List.length_map] at h1 h2 ⊢
    have h := run_append_room_string_off (P := P) w t t' r e i ht ht' hi hs1 b off sLen sCap cur hb ⟨s.toArray⟩ (by rw [hsz]; exact h1) (by rw [hsz]; simpa [hs1] using h2)
    simp only [hsz, strCells_byteV] at h
    rw [h]
    simp [hs1]
  · simp only [List.length_map] at h2 h3 h4 ⊢
    have h := Lib.run_append_grow_string (P := P) w t t' r e i z ht ht' hi hzz b sLen sCap olds h0 h1 ⟨s.toArray⟩ (by rw [hsz]; exact h2) (by rw [hsz]; exact h3) (by rw [hsz]; exact h4)
    simp only [hsz, strCells_byteV] at h
    rw [h]

omit [DS] in
theorem append_none_str {t t' r e : TypeId} {i : TypeInfo} (ht : P.underlying t = some (.slice e)) (hi : P.info? e = some i) (ht' : P.underlying t' = some .string) {b : Option Addr} {m cap : Nat} (hc : m ≤ cap) :
    (Builtin.append_ #[t, t'] r #[.slice b m cap, .string ⟨#[]⟩]).run P w = .ok (.slice b m cap) w := by
  have hu := und (P := P) ht w
  have hu' := und (P := P) ht' w
  have hz : (⟨#[]⟩ : ByteArray).size = 0 := rfl
  cases b <;> simp [Builtin.append_, underlying, ht, ht', sizeOf, typeInfo, hi, Builtin.lenOf, Builtin.firstCells, hc, hz, storeCells]

/-- 'append(x, ..)', x owned at the slot s (or nil). -/
theorem append_doneC (pr : Option (Option Value)) (hty : ∀ t, TyOK P t (ty t)) (hf : FRel d n a w g env) (hh : HRel w g h) {o : Oper} {t t' s e sz sz' : Nat} {xs ys : List V} {u xu : Value} {env' : Env} (hkt : (ty t).k = .slice e)
    (hop : execOp a.eval o = (do Pure.pure (Next.value (← Builtin.append_ #[t, t'] o.type #[u, xu])) : Sem Next)) (hu : VAt w g (.slot d s) (rowV pr e sz xs) u) (hnone : ys = [] → ∀ (i : TypeInfo), P.info? e = some i → ∀ (b : Option Addr) (m cap : Nat), m ≤ cap → (Builtin.append_ #[t, t'] o.type #[.slice b m cap, xu]).run P w = .ok (.slice b m cap) w) (hsrc : ∀ (i : TypeInfo) (z : Value), P.info? e = some i → i.zero = some z → i.size = sz' → ys ≠ [] → ∃ news, AppSrc P w g t t' o.type e i z ys xu news)
    (henv : env' = env.put s (env.get s).demote ∨ (env' = env ∧ u = .slice none 0 0)) (hsz : sz = (ty e).size) (hsz' : sz' = (ty e).size) (hpos : 0 < sz') (hrm : room (xs.length + ys.length) (ty e).bytes) :
    OpDone P d n o a w g (rowV (pr.map fun _ => none) e sz (xs ++ ys)) env' h := by
  obtain ⟨i, z, hi, his, hiby, hzz, hzm, hzl, hag⟩ := TyOK.get hty (t := e) (by omega)
  have hk := (hty t).k
  rw [hkt] at hk
  have ht : P.underlying t = some (.slice e) := hk
  have hzr : LRel w g.F g.ι (ty e).zero z.cells.toList := zms_rel hzm
  have hzs : z.cells.size = (ty e).size := by have := hzr.1; simp at this; omega
  have hfrel' : FRel d n a w g env' := by
    rcases henv with rfl | ⟨rfl, _⟩
    · exact ⟨hf.size, fun j => by
        rw [Env.get_put]
        by_cases hj : j = s
        · subst hj; rw [if_pos rfl]; exact .inl (hf.slot j).demote
        · rw [if_neg hj]; exact hf.slot j, hf.defers⟩
    · exact hf
  by_cases hys : ys = []
  · -- nothing comes
    subst hys
    have hcapn : ∃ b cap, u = .slice b xs.length cap ∧ xs.length ≤ cap := by
      rcases own_row hu with ⟨a0, rfl, rfl⟩ | ⟨b, off, cap, cur, vals, rfl, hb, hcap, _⟩
      · exact ⟨a0, 0, rfl, Nat.le_refl _⟩
      · exact ⟨_, cap, rfl, hcap⟩
    obtain ⟨b, cap, hue, hcap⟩ := hcapn
    have hrun := hnone rfl i hi b xs.length cap hcap
    rw [List.append_nil]
    refine ⟨u, w, g.move (.slot d s) (.slot d (o.dst.getD s)) u, .inl (by rw [hop, hue]; simp only [Sem.run_bind, hrun, Result.andThen_ok, Sem.run_pure]), move_ext g w _ (.inl rfl), hh.moved (by simp), ?_, fun j hj => ?_⟩
    · rcases henv with rfl | ⟨rfl, hn⟩
      · refine ⟨hf.size, fun j => ?_, hf.defers.move⟩
        rw [Env.get_put]
        by_cases hj : j = s
        · subst hj; rw [if_pos rfl]; exact .inl (by rw [Gh.move_F, Gh.move_ι]; exact (hf.slot j).demote)
        · rw [if_neg hj]; exact (hf.slot j).stays (fun e => hj (by injection e))
      · subst hn; exact hf
    · rw [hj]; exact hu.untag.moved
  · obtain ⟨news, hxl, hx1, hxw, hxr, hxnil, hxroom, hxgrow⟩ := hsrc i z hi hzz (by rw [his, hsz']) hys
    · have hlen0 : 0 < ys.length := List.length_pos_iff.2 hys
      rw [his, ← hsz'] at hxl hxw
      obtain ⟨hrm1, hrm2⟩ := hrm
      have hall : (xs ++ ys).length = xs.length + ys.length := by simp
      have hwall : (∀ x ∈ xs, x.cells.length = sz) → ∀ x ∈ xs ++ ys, x.cells.length = sz := fun hw x hx => by
        rcases List.mem_append.1 hx with hx | hx
        · exact hw x hx
        · rw [hxw x hx, hsz, hsz']
      -- laid anew
      have anew : ∀ (vals : List Value) (old : Nat), old < xs.length + ys.length → vals.length = xs.length * sz → LRel w g.F g.ι (xs.flatMap V.cells) vals → (∀ u ∈ vals, u.oneCell' = true) → (∀ x ∈ xs, x.cells.length = sz) →
          (Builtin.append_ #[t, t'] o.type #[u, xu]).run P w =
            .ok (.slice (some ⟨w.heap.size, 0, none⟩) (xs.length + ys.length) (grownCap w (xs.length + ys.length) old e))
              (w.drew.alloc (.cells (vals.toArray ++ news.toArray ++ Builtin.zeroCells z.cells (grownCap w (xs.length + ys.length) old e - (xs.length + ys.length))) e)) →
          OpDone P d n o a w g (rowV (pr.map fun _ => none) e sz (xs ++ ys)) env' h := by
        intro vals old ho hvl hvr hv1 hw hrun
        have hge := grownCap_ge w (xs.length + ys.length) old e
        have hcm : grownCap w (xs.length + ys.length) old e ≤ maxLen := grownCap_le_maxLen w _ old e (by unfold maxLen; omega)
        have hG := grown_new (w := w) (g := g) (h := h) (q := .slot d (o.dst.getD s)) (m := rowF pr ((xs.length + ys.length) * sz)) (e := e)
          (c := vals.toArray ++ news.toArray ++ Builtin.zeroCells z.cells (grownCap w (xs.length + ys.length) old e - (xs.length + ys.length))) hh
        refine ⟨_, _, _, .inl (by rw [hop]; simp only [Sem.run_bind, hrun, Result.andThen_ok, Sem.run_pure]; rfl), hG.ext hh, hG.hrel hh, hG.frel hh hfrel', fun j hj => .inr ?_⟩
        have hnl2 : news.length = ys.length * sz := by rw [hxl, hsz', hsz]
        refine ⟨pr.map fun _ => none, e, sz, xs ++ ys, w.heap.size, 0, grownCap w (xs.length + ys.length) old e, _, vals ++ news, rfl, by rw [hall], heap_alloc_new w.drew _, by rw [hall]; exact hge, hcm, ?_, ?_, by rw [hall, List.length_append, hvl, hnl2, Nat.add_mul], by omega, hwall hw, ?_, ?_, ?_, ?_, fun o u' ho hu' => by cases pr <;> simp at ho; subst ho; cases hu'⟩
        · simp only [Array.size_append, List.size_toArray, size_zeroCells, hzs, hvl, hnl2, ← hsz, ← Nat.add_mul, Nat.zero_add]
          congr 1
          omega
        · rw [hall, List.drop_zero]
          simp only [Array.toList_append, List.append_assoc]
          rw [← List.append_assoc]
          have : (xs.length + ys.length) * sz = (vals ++ news).length := by rw [List.length_append, hvl, hnl2, Nat.add_mul]
          rw [this]
          exact List.take_left
        · intro v hv
          rcases List.mem_append.1 hv with hv | hv
          · exact hv1 v hv
          · exact hx1 v hv
        · rw [List.flatMap_append]
          exact (hvr.append hxr).mono (hG.cov hh)
        · simp [Gh.grown, rowF_map]
        · simp [Gh.grown, hj]
      rcases own_row hu with ⟨a0, rfl, rfl⟩ | ⟨b, off, cap, cur, vals, rfl, hb, hcap, hmx, hcs, htk, hvl, hszp, hw, h1, hr, hF, hO⟩
      · -- onto nil
        refine anew [] 0 (by simpa using hlen0) (by simp) LRel.nil (by simp) (by simp) ?_
        cases a0 with
        | some a0 =>
          have hrun := hxgrow a0 0 0 [] (by simp) (by simp) (by simpa using hlen0) (by omega) (growslice_fits (by omega) (by rw [hiby]; have := hrm1; simp only [List.length_nil, Nat.zero_add] at this; omega))
          simp only [Nat.zero_add] at hrun
          simpa using hrun
        | none =>
        have hrun := hxnil (by omega) (by have := hrm1; simp only [List.length_nil, Nat.zero_add] at this; rw [hiby]; omega)
        rw [hrun]
        simp
      · have hvl' : vals.length = xs.length * i.size := by rw [hvl, hsz, his]
        have holds : ∀ (j : Nat) (v : Value), vals[j]? = some v → w.cell? ((⟨b, off, none⟩ : Addr).add j) = some v := by
          intro j v hj
          rw [Addr.add_lit]
          rw [← htk, List.getElem?_take] at hj
          split at hj
          · rw [List.getElem?_drop] at hj
            simpa [World.cell?, hb] using hj
          · cases hj
        by_cases hroom : xs.length + ys.length ≤ cap
        · have hnl2 : news.length = ys.length * sz := by rw [hxl, hsz', hsz]
          have hfit : off + xs.length * sz + news.length ≤ cur.size := by
            have := Nat.mul_le_mul_right sz hroom
            rw [Nat.add_mul] at this
            rw [hnl2, hcs]; omega
          have hrun := hxroom b off xs.length cap cur hb hroom (by rw [his, ← hsz]; exact hfit)
          rw [his, ← hsz] at hrun
          have hcur : ∀ k, k < g.F b → (cur.toList.take (off + xs.length * sz) ++ news ++ cur.toList.drop (off + xs.length * sz + news.length)).toArray[k]? = cur[k]? := by
            intro k hk
            replace hk : k < off + xs.length * sz := Nat.lt_of_lt_of_le (hF ▸ hk) (Nat.add_le_add_left (rowF_self _ _) _)
            have h0 : k < cur.size := by omega
            have hmin : (cur.toList.take (off + xs.length * sz)).length = off + xs.length * sz := by simp; omega
            simp only [List.getElem?_toArray, List.append_assoc]
            rw [List.getElem?_append, hmin, if_pos hk, List.getElem?_take, if_pos hk]
            simp
          have hes : env' = env.put s (env.get s).demote := by
            rcases henv with h | ⟨_, h⟩
            · exact h
            · cases h
          obtain ⟨x1, x2, x3⟩ := grown_room (q := .slot d (o.dst.getD s)) (m := off + rowF pr ((xs.length + ys.length) * sz)) hh hf hb hO (by rw [hF]; exact Nat.add_le_add_left (rowF_le _ (Nat.mul_le_mul_right _ (Nat.le_add_right _ _))) _) hcur
          rw [← hes] at x3
          refine ⟨_, _, _, .inl (by rw [hop]; simp only [Sem.run_bind, hrun, Result.andThen_ok, Sem.run_pure]; rfl), x1, x2, x3, fun j hj => .inr ?_⟩
          refine ⟨pr.map fun _ => none, e, sz, xs ++ ys, b, off, cap, _, vals ++ news, rfl, by rw [hall], setRow_heap w b cur _ e (0, 0) hb, by rw [hall]; exact hroom, hmx, ?_, ?_, by rw [hall, List.length_append, hvl, hnl2, Nat.add_mul], hszp, hwall hw, ?_, ?_, ?_, ?_, fun o u' ho hu' => by cases pr <;> simp at ho; subst ho; cases hu'⟩
          · simp only [List.size_toArray, List.length_append, List.length_take, List.length_drop, Array.length_toList]
            omega
          · have htk2 : cur.toList.take (off + xs.length * sz) = cur.toList.take off ++ vals := by rw [List.take_add, htk]
            have hlo : (cur.toList.take off).length = off := by simp; omega
            rw [hall, htk2]
            have : (xs.length + ys.length) * sz = (vals ++ news).length := by rw [List.length_append, hvl, hnl2, Nat.add_mul]
            rw [this]
            simp only [List.append_assoc]
            rw [List.drop_left' hlo, ← List.append_assoc]
            exact List.take_left
          · intro v hv
            rcases List.mem_append.1 hv with hv | hv
            · exact h1 v hv
            · exact hx1 v hv
          · rw [List.flatMap_append]
            exact (hr.append hxr).mono x1.cov
          · simp [Gh.grown, rowF_map]
          · simp [Gh.grown, hj]
        · have hrun := hxgrow ⟨b, off, none⟩ xs.length cap vals hvl' holds (by omega) (by omega) (growslice_fits (by omega) (by rw [hiby]; omega))
          exact anew vals cap (by omega) hvl hr h1 hw hrun

/-- 'append(x, ys...)', x owned at the slot s (or nil). -/
theorem append_done (pr : Option (Option Value)) (hty : ∀ t, TyOK P t (ty t)) (hf : FRel d n a w g env) (hh : HRel w g h) {o : Oper} {t t' s e sz sz' : Nat} {xs ys : List V} {u xu : Value} {env' : Env} (hkt : (ty t).k = .slice e) (hkt' : P.underlying t' = P.underlying t)
    (hop : execOp a.eval o = (do Pure.pure (Next.value (← Builtin.append_ #[t, t'] o.type #[u, xu])) : Sem Next)) (hu : VAt w g (.slot d s) (rowV pr e sz xs) u) (hx : VRel w g.F g.ι (.sl sz' ys) xu)
    (henv : env' = env.put s (env.get s).demote ∨ (env' = env ∧ u = .slice none 0 0)) (hsz : sz = (ty e).size) (hsz' : sz' = (ty e).size) (hpos : 0 < sz') (hrm : room (xs.length + ys.length) (ty e).bytes) :
    OpDone P d n o a w g (rowV (pr.map fun _ => none) e sz (xs ++ ys)) env' h := by
  have hk := (hty t).k
  rw [hkt] at hk
  have ht : P.underlying t = some (.slice e) := hk
  refine append_doneC (sz' := sz') pr hty hf hh hkt hop hu (fun hys i hi b m cap hc => ?_) (fun i z hi hz his hys => AppSrc.ofSlice ht (hkt'.trans ht) hi hz his.symm hx hys) henv hsz hsz' hpos hrm
  subst hys
  obtain ⟨xa, xcap, rfl, _⟩ := hx.flat
  exact append_none (P := P) (w := w) (r := o.type) ht hi (hkt'.trans ht) (by simp) (b := b) (m := m) (cap := cap) hc (b' := xa) (cap' := xcap)

omit [DS] in
theorem flat_len' {sz : Nat} : ∀ {xs : List V}, (∀ x ∈ xs, x.cells.length = sz) → (xs.flatMap V.cells).length = xs.length * sz
  | [], _ => by simp
  | x :: xs, hw => by
    simp only [List.flatMap_cons, List.length_append, List.length_cons, Nat.add_mul, Nat.one_mul]
    rw [flat_len' (fun y hy => hw y (List.mem_cons_of_mem _ hy)), hw x List.mem_cons_self]
    omega
/-- 'append(x, ys...)', x a slice that has no room: a new row. -/
theorem append_cap (hty : ∀ t, TyOK P t (ty t)) (hf : FRel d n a w g env) (hh : HRel w g h) {o : Oper} {t t' e sz sz' : Nat} {xs ys : List V} {u xu : Value} {env' : Env} (hkt : (ty t).k = .slice e) (hkt' : P.underlying t' = P.underlying t)
    (hop : execOp a.eval o = (do Pure.pure (Next.value (← Builtin.append_ #[t, t'] o.type #[u, xu])) : Sem Next)) (hu : VRel w g.F g.ι (.cap sz xs) u) (hx : VRel w g.F g.ι (.sl sz' ys) xu) (hfe : FRel d n a w g env')
    (hsz : sz = (ty e).size) (hsz' : sz' = (ty e).size) (hpos : 0 < sz') (hys : ys ≠ []) (hrm : room (xs.length + ys.length) (ty e).bytes) :
    OpDone P d n o a w g (.own e sz (xs ++ ys)) env' h := by
  have hk := (hty t).k
  rw [hkt] at hk
  have ht : P.underlying t = some (.slice e) := hk
  obtain ⟨i, z, hi, his, hiby, hzz, hzm, hzl, hag⟩ := TyOK.get hty (t := e) (by omega)
  have hzr : LRel w g.F g.ι (ty e).zero z.cells.toList := zms_rel hzm
  have hzs : z.cells.size = (ty e).size := by have := hzr.1; simp at this; omega
  obtain ⟨news, hxl, hx1, hxw, hxr, hxnil, hxroom, hxgrow⟩ := AppSrc.ofSlice (P := P) (r := o.type) ht (hkt'.trans ht) hi hzz (by rw [hsz', his]) hx hys
  have hlen0 : 0 < ys.length := List.length_pos_iff.2 hys
  rw [his, ← hsz'] at hxl hxw
  obtain ⟨hrm1, hrm2⟩ := hrm
  have hall : (xs ++ ys).length = xs.length + ys.length := by simp
  have hwall : (∀ x ∈ xs, x.cells.length = sz) → ∀ x ∈ xs ++ ys, x.cells.length = sz := fun hw x hx => by
    rcases List.mem_append.1 hx with hx | hx
    · exact hw x hx
    · rw [hxw x hx, hsz, hsz']
  have anew : ∀ (vals : List Value) (old : Nat), old < xs.length + ys.length → vals.length = xs.length * sz → LRel w g.F g.ι (xs.flatMap V.cells) vals → (∀ u ∈ vals, u.oneCell' = true) → (∀ x ∈ xs, x.cells.length = sz) →
      (Builtin.append_ #[t, t'] o.type #[u, xu]).run P w =
        .ok (.slice (some ⟨w.heap.size, 0, none⟩) (xs.length + ys.length) (grownCap w (xs.length + ys.length) old e))
          (w.drew.alloc (.cells (vals.toArray ++ news.toArray ++ Builtin.zeroCells z.cells (grownCap w (xs.length + ys.length) old e - (xs.length + ys.length))) e)) →
      OpDone P d n o a w g (.own e sz (xs ++ ys)) env' h := by
    intro vals old ho hvl hvr hv1 hw hrun
    have hge := grownCap_ge w (xs.length + ys.length) old e
    have hcm : grownCap w (xs.length + ys.length) old e ≤ maxLen := grownCap_le_maxLen w _ old e (by unfold maxLen; omega)
    have hG := grown_new (w := w) (g := g) (h := h) (q := .slot d (o.dst.getD 0)) (m := (xs.length + ys.length) * sz) (e := e)
      (c := vals.toArray ++ news.toArray ++ Builtin.zeroCells z.cells (grownCap w (xs.length + ys.length) old e - (xs.length + ys.length))) hh
    refine ⟨_, _, _, .inl (by rw [hop]; simp only [Sem.run_bind, hrun, Result.andThen_ok, Sem.run_pure]; rfl), hG.ext hh, hG.hrel hh, hG.frel hh hfe, fun j hj => .inr ?_⟩
    have hnl2 : news.length = ys.length * sz := by rw [hxl, hsz', hsz]
    refine ⟨none, e, sz, xs ++ ys, w.heap.size, 0, grownCap w (xs.length + ys.length) old e, _, vals ++ news, rfl, by rw [hall], heap_alloc_new w.drew _, by rw [hall]; exact hge, hcm, ?_, ?_, by rw [hall, List.length_append, hvl, hnl2, Nat.add_mul], by omega, hwall hw, ?_, ?_, ?_, ?_, fun o u' ho hu' => by cases ho⟩
    · simp only [Array.size_append, List.size_toArray, size_zeroCells, hzs, hvl, hnl2, ← hsz, ← Nat.add_mul, Nat.zero_add]
      congr 1
      omega
    · rw [hall, List.drop_zero]
      simp only [Array.toList_append, List.append_assoc]
      rw [← List.append_assoc]
      have : (xs.length + ys.length) * sz = (vals ++ news).length := by rw [List.length_append, hvl, hnl2, Nat.add_mul]
      rw [this]
      exact List.take_left
    · intro v hv
      rcases List.mem_append.1 hv with hv | hv
      · exact hv1 v hv
      · exact hx1 v hv
    · rw [List.flatMap_append]
      exact (hvr.append hxr).mono (hG.cov hh)
    · simp [Gh.grown, rowF]
    · simp [Gh.grown, hj]
  cases hu with
  | cap0 _ a0 =>
    refine anew [] 0 (by simpa using hlen0) (by simp) LRel.nil (by simp) (by simp) ?_
    cases a0 with
    | some a0 =>
      have hrun := hxgrow a0 0 0 [] (by simp) (by simp) (by simpa using hlen0) (by omega) (growslice_fits (by omega) (by rw [hiby]; have := hrm1; simp only [List.length_nil, Nat.zero_add] at this; omega))
      simp only [Nat.zero_add] at hrun
      simpa using hrun
    | none =>
      have hrun := hxnil (by omega) (by have := hrm1; simp only [List.length_nil, Nat.zero_add] at this; rw [hiby]; omega)
      rw [hrun]
      simp
  | cap _ _ b off len vals hlen hszp hw hvl hcov hc h1 hr =>
    subst hlen
    have holds : ∀ (j : Nat) (v : Value), vals[j]? = some v → w.cell? ((⟨b, off, none⟩ : Addr).add j) = some v := by
      intro j v hj
      rw [Addr.add_lit]
      exact hc j v hj
    have hrun := hxgrow ⟨b, off, none⟩ xs.length xs.length vals (by rw [hvl, hsz, his]) holds (by omega) (by omega) (growslice_fits (by omega) (by rw [hiby]; omega))
    exact anew vals xs.length (by omega) hvl ⟨by rw [hvl]; exact flat_len' hw, hr⟩ h1 hw hrun

/-- A text behind owned bytes. -/
theorem append_text (hty : ∀ t, TyOK P t (ty t)) (hf : FRel d n a w g env) (hh : HRel w g h) {o : Oper} {t t' s e sz : Nat} {xs : List V} {x : List UInt8} {u xu : Value} {env' : Env} (hkt : (ty t).k = .slice e) (ht' : P.underlying t' = some .string)
    (hop : execOp a.eval o = (do Pure.pure (Next.value (← Builtin.append_ #[t, t'] o.type #[u, xu])) : Sem Next)) (hu : VAt w g (.slot d s) (.own e sz xs) u) (hx : VRel w g.F g.ι (.str x) xu)
    (henv : env' = env.put s (env.get s).demote ∨ (env' = env ∧ u = .slice none 0 0)) (hsz : sz = (ty e).size) (hsz1 : (ty e).size = 1) (hby : (ty e).bytes = 1) (hrm : room (xs.length + x.length) 1) :
    OpDone P d n o a w g (.own e sz (xs ++ x.map byteV)) env' h := by
  have hk := (hty t).k
  rw [hkt] at hk
  have ht : P.underlying t = some (.slice e) := hk
  obtain ⟨⟨⟨xl⟩⟩, rfl, rfl⟩ := hx.str_inv
  refine append_doneC (sz' := 1) none hty hf hh hkt hop hu (fun hys i hi b m cap hc => ?_) (fun i z hi hz his hys => ⟨_, AppSrc.ofStr ht ht' hi hz his xl (fun e => hys (by rw [e]; rfl))⟩) henv hsz hsz1.symm (by omega) (by rw [hby, List.length_map]; exact hrm)
  cases xl with
  | nil => exact append_none_str (P := P) (w := w) ht hi ht' hc
  | cons c x => simp at hys

end
end Go.Proofs.YtmjohmefhikelaaDoor.Pv
