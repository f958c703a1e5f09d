/- The pure evaluator: codes in the frame of a round of a range over a function. -/
import Derived.Test.YtmjohmefhikelaaDoorPwN
import Derived.TacticsIn
import Derived.OrdersIn
import Derived.RangeFuncCalls
import Derived.RangeFuncNested
set_option linter.unusedVariables false
set_option linter.unusedSimpArgs false
namespace Go.Proofs.YtmjohmefhikelaaDoor.Pv
open Go

/-- The fence that asks nothing, of a round's frame or of a function's. -/
abbrev FR (ro : Option Nat) : Fence := { Fence.wide with round := ro }

/-- What is asked of a code in a frame: no deferred calls in a round; marks, or the outer loop's record, where it ranges over a function. -/
def FrOK (ro : Option Nat) (base : Base) (s : Nat) (c : Code) : Prop :=
  (ro = none ∨ noDefC c = true) ∧ (noRangeC c = true ∨ (ro = none ∧ ∃ b, base.top = some b ∧ b ≤ s) ∨ ∃ l, ro = some l ∧ base.lp = some l)
theorem FrOK.sub {ro : Option Nat} {base : Base} {s s' : Nat} {c c' : Code} (h : FrOK ro base s c) (hs : s ≤ s') (h1 : noDefC c = true → noDefC c' = true) (h2 : noRangeC c = true → noRangeC c' = true) : FrOK ro base s' c' :=
  ⟨h.1.imp_right h1, h.2.imp h2 (Or.imp_left fun ⟨e, b, hb, hle⟩ => ⟨e, b, hb, Nat.le_trans hle hs⟩)⟩
section
variable {ro : Option Nat} {base : Base} {s s' : Nat} {x y : Code} {k : Operand} {i : Nat}
theorem FrOK.seq1 (h : FrOK ro base s (.seq x y)) (hs : s ≤ s') : FrOK ro base s' x := h.sub hs (fun e => by simp only [noDefC, Bool.and_eq_true] at e; exact e.1) (fun e => by simp only [noRangeC, Bool.and_eq_true] at e; exact e.1)
theorem FrOK.seq2 (h : FrOK ro base s (.seq x y)) (hs : s ≤ s') : FrOK ro base s' y := h.sub hs (fun e => by simp only [noDefC, Bool.and_eq_true] at e; exact e.2) (fun e => by simp only [noRangeC, Bool.and_eq_true] at e; exact e.2)
theorem FrOK.cond1 (h : FrOK ro base s (.cond k x y)) (hs : s ≤ s') : FrOK ro base s' x := h.sub hs (fun e => by simp only [noDefC, Bool.and_eq_true] at e; exact e.1) (fun e => by simp only [noRangeC, Bool.and_eq_true] at e; exact e.1)
theorem FrOK.cond2 (h : FrOK ro base s (.cond k x y)) (hs : s ≤ s') : FrOK ro base s' y := h.sub hs (fun e => by simp only [noDefC, Bool.and_eq_true] at e; exact e.2) (fun e => by simp only [noRangeC, Bool.and_eq_true] at e; exact e.2)
theorem FrOK.blk (h : FrOK ro base s (.block i x)) (hs : s ≤ s') : FrOK ro base s' x := h.sub hs (fun e => by simpa [noDefC] using e) (fun e => by simpa [noRangeC] using e)
theorem FrOK.lp (h : FrOK ro base s (.loop x)) (hs : s ≤ s') : FrOK ro base s' x := h.sub hs (fun e => by simpa [noDefC] using e) (fun e => by simpa [noRangeC] using e)
theorem FrOK.scp (h : FrOK ro base s (.scope x)) (hs : s ≤ s') : FrOK ro base s' x := h.sub hs (fun e => by simpa [noDefC] using e) (fun e => by simpa [noRangeC] using e)
end

section
variable {P : Program} {ro : Option Nat}
theorem opIn_of_op {o : Oper} {a : Act} {w : World} {K : Act → World → Prop} {Q : Exit → Act → World → Prop} (hd : ro = none ∨ noDef o = true) (h : o.wp P a w K Q) : o.wpIn (FR ro) 0 P a w K Q := by
  refine ⟨fun _ _ => trivial, ?_⟩
  have hs : o.semAt (FR ro).round a.eval = execOp a.eval o := by
    rcases hd with rfl | hd
    · rfl
    · exact Oper.semAt_eq _ _ _ fun c hc => by simp [noDef, hc] at hd
  rw [hs]
  unfold Oper.wp at h
  generalize (execOp a.eval o).run P w = r at h
  cases r with
  | ok x w' =>
    cases x <;> simp only [Oper.upon] at h <;> simp only [Oper.uponIn] <;>
      first
      | exact h
      | exact ⟨fun e => by simp [FR, Fence.wide] at e, callsIn_wide.2 h⟩
      | exact ⟨fun e => by simp [FR, Fence.wide] at e, fun c cs _ => let ⟨v, w', r, s⟩ := h c cs; ⟨v, w', r, stepsIn_wide.2 s⟩⟩
      | exact h.elim
  | halt x w' => cases x <;> simp only [Oper.upon] at h <;> simp only [Oper.uponIn] <;> first | exact h | exact h.elim

theorem listIn_of_list {ops : Array Oper} {Q : Exit → Act → World → Prop} (hd : ro = none ∨ ∀ o ∈ ops.toList, noDef o = true) (hq : ¬ LetsOut Q) : ∀ (l : List Oper), (∀ o ∈ l, o ∈ ops.toList) → ∀ a w, wpList P ops Q l a w → wpListIn (FR ro) 0 P ops Q l a w
  | [], _, a, w, h => h
  | o :: l, hl, a, w, h => by
    have ih := listIn_of_list hd hq l (fun o ho => hl o (List.mem_cons_of_mem _ ho))
    unfold wpList at h
    unfold wpListIn
    split
    · rename_i hw
      rw [if_pos hw] at h
      rcases h with h | h
      · exact Oper.wpIn_mono ih (opIn_of_op (hd.imp (fun x => x) fun e => e o (hl o (by simp))) h)
      · exact absurd h.2 hq
    · rename_i hw
      rw [if_neg hw] at h
      exact ⟨fun _ _ => trivial, ih _ _ h⟩

theorem anyIn_of_any {ops : Array Oper} {Q : Exit → Act → World → Prop} (hd : ro = none ∨ ∀ o ∈ ops.toList, noDef o = true) (hq : ¬ LetsOut Q) : ∀ (k : Nat) (listed : Array Bool) a w, wpAny P .any ops Q k listed a w → wpAnyIn (FR ro) 0 P .any ops Q k listed a w
  | 0, listed, a, w, h => h
  | k + 1, listed, a, w, h => by
    refine ⟨h.1, fun i hi => ?_⟩
    have h2 := h.2 i hi
    unfold wpOp at h2
    unfold wpOpIn
    split
    · rename_i ho; rw [ho] at h2; exact anyIn_of_any hd hq k _ _ _ h2
    · rename_i o ho
      rw [ho] at h2
      simp only [] at h2
      have hm : o ∈ ops.toList := by rw [Array.mem_toList_iff]; exact Array.mem_of_getElem? ho
      split
      · rename_i hw
        rw [if_pos hw] at h2
        rcases h2 with h2 | h2
        · exact Oper.wpIn_mono (fun a w hk => anyIn_of_any hd hq k _ _ _ hk) (opIn_of_op (hd.imp (fun x => x) fun e => e o hm) h2)
        · exact absurd h2.2 hq
      · rename_i hw
        rw [if_neg hw] at h2
        exact ⟨fun _ _ => trivial, anyIn_of_any hd hq k _ _ _ h2⟩

theorem stepR_scope {b : Frame} {a : Act} {k : List Item} {cs : List Frame} {w : World} {c : Code} : step P (lone (b.atR a (.code (.scope c) :: k)) cs w) = .next (lone (b.atR a (.code c :: .inScope c :: k)) cs w) :=
  step_lone_go (by simp [stepG, stepG.exec, Frame.atR])
theorem stepR_inScope {b : Frame} {a : Act} {k : List Item} {cs : List Frame} {w : World} {c : Code} : step P (lone (b.atR a (.inScope c :: k)) cs w) = .next (lone (b.atR a k) cs w) :=
  step_lone_go (by simp [stepG, stepG.exec, Frame.atR])
end

/-! ### A range over a function -/
theorem hidden_kept {d : Nat} {w w' : World} {g g' : Gh} (hx : Ext d w g w' g') {b : Nat} (hb : b < w.heap.size) (hi : b ∉ g.ι) (hO : g.O b = none) (hF : g.F b = 0) : w'.heap[b]? = w.heap[b]? ∧ b ∉ g'.ι ∧ g'.O b = none ∧ g'.F b = 0 := by
  obtain ⟨e1, e2, e3⟩ := hx.kept b hb hi (fun _ _ => by rw [hO]; simp) (fun _ _ _ => by rw [hO]; simp)
  exact ⟨e1, fun hm => (hx.new b hm).elim hi (fun e => by omega), e3.trans hO, e2.trans hF⟩
theorem hide_hrel {w : World} {g : Gh} {h : H} {l : Nat} (o : Obj) (hi : l ∉ g.ι) (hO : g.O l = none) (hF : g.F l = 0) (hh : HRel w g h) : HRel (withObj w l o) g h := by
  refine ⟨hh.len, hh.nodup, fun id o b ho hb' => ?_, fun b' hb' => ?_, fun b' hb' => hh.fresh b' (by simpa [withObj] using hb'), hh.glob.cov (WriteM.cov hF)⟩
  · have hne : ∀ (m bm : Nat), g.ι[m]? = some bm → bm ≠ l := fun m bm hbm e => hi (e ▸ List.mem_of_getElem? hbm)
    exact (hh.obj id o b ho hb').of_vat (withObj_other (hne _ _ hb')) (fun m bm hbm => ⟨hbm, .of_eq (withObj_other (hne _ _ hbm))⟩) (fun h => h.mono (WriteM.cov hF)) (fun h => WriteM.vat hF hO h)
  · obtain ⟨h1, h2, h3⟩ := hh.apart b' hb'
    exact ⟨h1, h2, by simpa [withObj] using h3⟩
theorem hide_ext {d : Nat} {w0 w : World} {g0 g : Gh} {l : Nat} (o : Obj) (hl : w0.heap.size ≤ l) (hF : g.F l = 0) (hx : Ext d w0 g0 w g) : Ext d w0 g0 (withObj w l o) g := by
  refine ⟨hx.os, hx.tape, hx.output, by simpa [withObj] using hx.size, hx.cov.trans (WriteM.cov hF), hx.new, fun b hlt h1 h2 h3 => ?_⟩
  obtain ⟨e1, e2, e3⟩ := hx.kept b hlt h1 h2 h3
  exact ⟨(withObj_other (by omega)).trans e1, e2, e3⟩
/-- A block that was turned, and has turned back. -/
theorem hide_through {d : Nat} {w2 w3 w4 : World} {g2 g3 g4 : Gh} {l : Nat} {o r : Obj} (hl : w2.heap[l]? = some r) (hi : l ∉ g2.ι) (hO : g2.O l = none) (hF : g2.F l = 0) (hx : Ext d w2 g2 w3 g3) (hx' : Ext d (withObj w3 l o) g3 w4 g4) : Ext d w2 g2 (withObj w4 l r) g4 := by
  have hlt : l < w2.heap.size := (Array.getElem?_eq_some_iff.1 hl).1
  obtain ⟨k1, k2, k3, k4⟩ := hidden_kept hx hlt hi hO hF
  have hs3 : (withObj w3 l o).heap.size = w3.heap.size := by simp [withObj]
  obtain ⟨_, j2, j3, j4⟩ := hidden_kept hx' (by rw [hs3]; exact Nat.lt_of_lt_of_le hlt hx.size) k2 k3 k4
  have hlt4 : l < w4.heap.size := Nat.lt_of_lt_of_le (Nat.lt_of_lt_of_le hlt hx.size) (by have := hx'.size; rwa [hs3] at this)
  refine ⟨hx'.os.trans hx.os, hx'.tape.trans hx.tape, hx'.output.trans hx.output, ?_, hx.cov.trans ((WriteM.cov (o := o) k4).trans (hx'.cov.trans (WriteM.cov j4))), fun b hb => ?_, fun b hlb h1 h2 h3 => ?_⟩
  · have := hx'.size; rw [hs3] at this
    simpa [withObj] using Nat.le_trans hx.size this
  · rcases hx'.new b hb with hb | hb
    · exact hx.new b hb
    · rw [hs3] at hb; exact .inr (Nat.le_trans hx.size hb)
  · by_cases hbl : b = l
    · subst hbl
      refine ⟨?_, j4.trans hF.symm, j3.trans hO.symm⟩
      rw [hl]; simp [withObj, hlt4]
    · obtain ⟨e1, e2, e3⟩ := hx.kept b hlb h1 h2 h3
      have hb3 : b ∉ g3.ι := fun hm => (hx.new b hm).elim h1 (fun e => by omega)
      obtain ⟨f1, f2, f3⟩ := hx'.kept b (by rw [hs3]; exact Nat.lt_of_lt_of_le hlb hx.size) hb3 (by rw [e3]; exact h2) (by rw [e3]; exact h3)
      exact ⟨(withObj_other hbl).trans (f1.trans ((withObj_other hbl).trans e1)), f2.trans e2, f3.trans e3⟩
theorem withObj_withObj (w : World) (l : Nat) (o o' : Obj) : withObj (withObj w l o) l o' = withObj w l o' := by
  simp [withObj]
theorem demEnv_get (env : Env) (i : Nat) : (demEnv env).get i = (env.get i).demote := by
  induction env with
  | nil => rfl
  | cons e r ih =>
    obtain ⟨k, v⟩ := e
    show (Env.get ((k, v.demote) :: demEnv r) i) = _
    simp only [Env.get]
    split
    · rfl
    · exact ih
theorem putAll_slot {w : World} {F : Nat → Nat} {ι : List Nat} {n : Nat} : ∀ (ps : List Nat) (vs : List V) (us : List Value) (env : Env) (tmps : Array Value), (∀ p ∈ ps, p < n) → vs.length = ps.length → LRel w F ι vs us → tmps.size = n → (∀ i, VRel w F ι (env.get i) (tmps.getD i undef)) →
    ((ps.zip us).foldl (fun t (q : Nat × Value) => t.setIfInBounds q.1 q.2) tmps).size = n ∧ ∀ i, VRel w F ι ((putAll ps vs env).get i) (((ps.zip us).foldl (fun t (q : Nat × Value) => t.setIfInBounds q.1 q.2) tmps).getD i undef)
  | [], vs, us, env, tmps, _, hl, _, hs, hv => by cases vs <;> exact ⟨hs, hv⟩
  | p :: ps, [], us, env, tmps, _, hl, _, hs, hv => by cases hl
  | p :: ps, v :: vs, [], env, tmps, _, hl, hr, hs, hv => by have := hr.1; cases this
  | p :: ps, v :: vs, u :: us, env, tmps, hp, hl, hr, hs, hv => by
    refine putAll_slot ps vs us (env.put p v) (tmps.setIfInBounds p u) (fun q hq => hp q (List.mem_cons_of_mem _ hq)) (by simpa using hl) ⟨by have := hr.1; simpa using this, fun k c u' hc hu => hr.2 (k + 1) c u' (by simpa using hc) (by simpa using hu)⟩ (by simpa using hs) fun i => ?_
    have hpn : p < n := hp p List.mem_cons_self
    rw [Env.get_put]
    by_cases hi : i = p
    · subst hi
      rw [if_pos rfl]
      have : (tmps.setIfInBounds i u).getD i undef = u := by simp [Array.getD_eq_getD_getElem?, Array.getElem?_setIfInBounds, hs, hpn]
      rw [this]
      exact hr.2 0 v u rfl rfl
    · rw [if_neg hi]
      have : (tmps.setIfInBounds p u).getD i undef = tmps.getD i undef := by simp [Array.getD_eq_getD_getElem?, Array.getElem?_setIfInBounds, show ¬ p = i from fun e => hi e.symm]
      rw [this]
      exact hv i
theorem grow_alloc0 {w : World} {g : Gh} {h : H} (hh : HRel w g h) (o : Obj) : Grow w g (w.alloc o) g := by
  refine ⟨rfl, rfl, rfl, by simp, fun b hb => ⟨heap_alloc_old w o hb, rfl, rfl⟩, rfl, fun b hb => ?_⟩
  have : w.heap.size + 1 ≤ b := by simpa using hb
  exact hh.fresh b (by omega)
/-- The jump that a round leaves behind. -/
def ExJ : Ex → Code → Prop
  | .ret, c => c = .ret
  | .exit id, c => c = .exit id
  | .goto l, c => c = .goto l
  | _, _ => False

section
variable {P : Program} {ty : Nat → Ty} {tk keep : List Nat} {d n : Nat} {ro : Option Nat}
/-- A round's frame. -/
@[reducible] def roundDS (l : Nat) : DS := { ds := [], base := { lp := some l } }
theorem round_wk {l d n : Nat} {w0 : World} {g0 : Gh} {he : H} (hh0 : HRel w0 g0 he) {a : Act} {w : World} {g : Gh} {env : Env} {h : H} (hs : @St (roundDS l) d n w0 g0 a w g env h) {K : Env → H → Prop} (hk : Wk he K env h) :
    ∃ g' env' h', @St (roundDS l) d n w0 g0 a w g' env' h' ∧ K env' h' :=
  letI := roundDS l
  hs.wk hh0 hk
/-- A code is sound in every frame. -/
def SoundC (P : Program) (ty : Nat → Ty) (tk keep : List Nat) (n : Nat) (c : Code) : Prop :=
  ∀ (dsI : DS) (d' : Nat) (ro' : Option Nat) (w0 : World) (g0 : Gh) (Q : PostX) (a : Act) (w : World) (g : Gh) (env : Env) (h : H), FrOK ro' dsI.base w0.heap.size c →
    @St dsI d' n w0 g0 a w g env h → wp ty (Sound P) n keep tk c Q env h → c.wpIn (FR ro') 0 P (@QC dsI d' n w0 g0 Q) a w

theorem range_sound0 [DS] {fo : Operand} {ps : Array Tmp} {x y : Code} (hx : SoundC P ty tk keep n x) (hy : SoundC P ty tk keep n y) {w0 : World} {g0 : Gh} {Q : PostX} {a : Act} {w : World} {gh : Gh} {env : Env} {h : H} (hnd : FrOK ro DS.base w0.heap.size (.rangeFunc fo ps x y)) (hs : St d n w0 g0 a w gh env h) (hr : RangeQ ty (Sound P) n keep tk fo ps x y Q env h) :
    (Code.rangeFunc fo ps x y).wpIn (FR ro) 0 P (QC d n w0 g0 Q) a w := by
  obtain ⟨f, caps, hev, hok, -, hit⟩ := hr
  obtain ⟨own, ss, ⟨own', ss', hoe, -, hro⟩, hlaw⟩ := hit (Nat.le_add_right _ _)
  rw [Nat.add_sub_cancel_left] at hlaw
  obtain ⟨⟨fn', hfn, hbody, hname⟩, hlaw⟩ := hlaw
  injection hoe with e1 e2
  subst e1; subst e2
  simp only [Bool.and_eq_true, List.all_eq_true] at hok
  obtain ⟨⟨hdx, hdy⟩, hps⟩ := hok
  replace hps : ∀ p ∈ ps.toList, p < n := fun p hp => by have := hps p hp; rwa [Nat.blt_eq] at this
  have hfo := ev_rel (ty := ty) hs.f 0 fo
  rw [hev] at hfo
  generalize hu : a.eval fo = u at hfo
  cases hfo with
  | func _ _ _ fa ca hfl hcl hfr hcr =>
  have hfa : fa = #[] := Array.eq_empty_of_size_eq_zero (by simpa using hfl.symm)
  subst hfa
  have hcaps : LRel w gh.F gh.ι caps ca.toList := ⟨by simpa using hcl, fun k c u hc hu => hcr k c u hc (by simpa using hu)⟩
  have hfresh : ∀ b, w.heap.size ≤ b → b ∉ gh.ι ∧ gh.O b = none ∧ gh.F b = 0 := fun b hb => ⟨fun hm => by have := (hs.h.apart b hm).2.2; omega, (hs.h.fresh b hb).2, (hs.h.fresh b hb).1⟩
  refine wpIn_rangeFunc ?_
  intro fnn _
  have core : ∀ (l : Nat) (mark : List Deferred) (W1 : World) (dfs : Nat), (Instr.enterLoop fnn a.tmps ps x y (FR ro).round).run P w = .ok (l, mark) W1 →
      W1.heap[l]? = some (.loop { state := .ready, pending := none, fn := fnn, tmps := a.tmps, params := ps, assign := x, body := y, defers := dfs }) → w.heap.size ≤ l → Grow w gh W1 gh →
      (∀ W G, Ext (d + 1) w gh W G → (∀ b, b ≠ l → w.heap.size ≤ b → b < W1.heap.size → W.heap[b]? = W1.heap[b]? ∧ b ∉ G.ι ∧ G.O b = none ∧ G.F b = 0) → DfOK W G DS.base DS.ds (mark ++ a.defers)) →
      ∃ (l : Nat) (mark : List Deferred) (w₁ : World) (d' : Deferred) (w₁' : World) (f : FuncId) (args : Array Value) (w₂ : World),
        (Instr.enterLoop fnn a.tmps ps x y (FR ro).round).run P w = .ok (l, mark) w₁ ∧ (resolve a.eval (rangeCall fo l) 0).run P w₁ = .ok d' w₁' ∧ (∀ f', Target.leads P w₁' d'.target d'.args = some f' → (FR ro).fn f') ∧
        (invoke d'.target d'.args).run P w₁' = .ok (.enter f args) w₂ ∧ ((FR ro).depth.isSome = true → 1 ≤ 0) ∧ CallsIn (FR ro) (0 - 1) P f args w₂ (rangePost (FR ro) 0 P l (QC d n w0 g0 Q) { a with defers := mark ++ a.defers }) := by
    intro l mark W1 dfs hrun hl1 hwl hgrow hmk
    obtain ⟨rec, hrec⟩ : ∃ rec : LoopState → Option Code → Go.Loop, rec = fun st pe => { state := st, pending := pe, fn := fnn, tmps := a.tmps, params := ps, assign := x, body := y, defers := dfs } := ⟨_, rfl⟩
    replace hl1 : W1.heap[l]? = some (.loop (rec .ready none)) := by rw [hl1, hrec]
    have hll : l < W1.heap.size := (Array.getElem?_eq_some_iff.1 hl1).1
    have hh1 : HRel W1 gh h := hgrow.hrel hs.h
    have hx1 : Ext (d + 1) w gh W1 gh := hgrow.ext hs.h
    -- what the new blocks hold
    let Kp : Obj → World → Gh → Prop := fun o W G => ∀ b, w.heap.size ≤ b → b < W1.heap.size → W.heap[b]? = (if b = l then some o else W1.heap[b]?) ∧ b ∉ G.ι ∧ G.O b = none ∧ G.F b = 0
    have kp1 : ∀ {W : World} {G : Gh} {d' : Nat}, Ext d' W1 gh W G → Kp (.loop (rec .ready none)) W G := fun hx b h1 h2 => by
      obtain ⟨i1, i2, i3⟩ := hfresh b h1
      obtain ⟨k1, k2, k3, k4⟩ := hidden_kept hx h2 i1 i2 i3
      refine ⟨?_, k2, k3, k4⟩
      rw [k1]
      split
      · rename_i e; rw [e]; exact hl1
      · rfl
    have kpx : ∀ {o : Obj} {W W' : World} {G G' : Gh} {d' : Nat}, W1.heap.size ≤ W.heap.size → Kp o W G → Ext d' W G W' G' → Kp o W' G' := fun hle hk hx b h1 h2 => by
      obtain ⟨k1, k2, k3, k4⟩ := hk b h1 h2
      obtain ⟨j1, j2, j3, j4⟩ := hidden_kept hx (Nat.lt_of_lt_of_le h2 hle) k2 k3 k4
      exact ⟨j1.trans k1, j2, j3, j4⟩
    have kpo : ∀ {o o' : Obj} {W : World} {G : Gh}, W1.heap.size ≤ W.heap.size → Kp o W G → Kp o' (withObj W l o') G := fun hle hk b h1 h2 => by
      obtain ⟨k1, k2, k3, k4⟩ := hk b h1 h2
      refine ⟨?_, k2, k3, k4⟩
      by_cases hb : b = l
      · subst hb
        have := Nat.lt_of_lt_of_le h2 hle
        rw [if_pos rfl]; simp [withObj, this]
      · rw [withObj_other hb, k1, if_neg hb, if_neg hb]
    have kpl : ∀ {o : Obj} {W : World} {G : Gh}, Kp o W G → W.heap[l]? = some o ∧ l ∉ G.ι ∧ G.O l = none ∧ G.F l = 0 := fun hk => by
      have := hk l hwl hll
      rwa [if_pos rfl] at this
    have hszo : ∀ (W : World) (o : Obj), (withObj W l o).heap.size = W.heap.size := fun W o => by simp [withObj]
    refine ⟨l, mark, W1, { target := .fn (.func f) ca, args := #[.func (.yield l) #[] #[]] }, W1, f, #[.func (.yield l) #[] #[]] ++ ca, W1, hrun, ?_, fun _ _ => trivial, ?_, (fun h => by cases h), ?_⟩
    · simp only [resolve, hu]
      simp [go_sem, Deferred.ofValue]
    · have hb2 : ¬ fn'.body = none := by cases hb : fn'.body <;> simp [hb] at hbody ⊢
      have hn2 : ¬ fn'.name = "runtime.NumGoroutine" := by simpa using hname
      simp [invoke, callFunc, hfn, hn2, hb2]
    let J : List Step → World → Gh → H → Prop := fun ss' W G H' => roundsQ (fun Q env h => wp ty (Sound P) n keep tk x Q env h) (fun Q env h => wp ty (Sound P) n keep tk y Q env h) own ps.toList env (Q .normal env) (fun e => Q e env) ss' H' ∧ Ext (d + 1) W1 gh W G
    let Jx : World → Gh → H → Prop := fun W G H' => ∃ ex jc, ExJ ex jc ∧ Q ex env H' ∧ Ext (d + 1) w gh W G ∧ Kp (.loop (rec .done (some jc))) W G
    have hY : ∀ (s : Step) (ss' : List Step) (w1 : World) (g1 : Gh) (h1 : H) (w2 : World) (g2 : Gh) (xs : Array Value), J (s :: ss') w1 g1 h1 → Ext (d + 1) w1 g1 w2 g2 → HRel w2 g2 (updH s.1 h1) → LRel w2 g2.F g2.ι s.2 xs.toList →
        YieldAt Fence.wide 0 P l xs w2 fun e w3 => ∃ g3 h3, HRel w3 g3 h3 ∧ ((e = .returned (.bool true) ∧ Ext (d + 1 + 1) w2 g2 w3 g3 ∧ (∀ i ∈ own, h3[i]? = (updH s.1 h1)[i]?) ∧ J ss' w3 g3 h3) ∨
          (e = .returned (.bool false) ∧ (∃ w' o, w3 = withObj w' l o ∧ Ext (d + 1 + 1) w2 g2 w' g3 ∧ l ∉ g3.ι ∧ g3.O l = none ∧ g3.F l = 0) ∧ Jx w3 g3 h3)) := by
      rintro s ss' w1 g1 h1 w2 g2 xs ⟨hro, hxe⟩ hx12 hh2 hxs
      have hx2 : Ext (d + 1) W1 gh w2 g2 := hxe.trans hx12
      have hk2 := kp1 hx2
      obtain ⟨hl2, hi2, hO2, hF2⟩ := kpl hk2
      simp only [roundsQ] at hro
      obtain ⟨hlen, hA⟩ := hro
      have hsz : xs.size = ps.size := by have := hxs.1; simp only [Array.length_toList] at this hlen; omega
      refine ⟨fnn, _, x, y, by have := run_yield (P := P) (args := xs) hl2 (by rw [hrec]; exact hsz); rw [hrec] at this; exact this, ?_⟩
      refine roundIn_of_wpIn trivial ?_
      have hst : @St (roundDS l) (d + 1 + 1) n w2 g2 { tmps := (ps.zip xs).foldl (fun tmps (t, a) => tmps.setIfInBounds t a) a.tmps, defers := [] } w2 g2 (putAll ps.toList s.2 (demEnv env)) (updH s.1 h1) := by
        have hcov : Cov w gh.F gh.ι w2 g2.F g2.ι := (hx1.trans hx2).cov
        have := putAll_slot (w := w2) (F := g2.F) (ι := g2.ι) ps.toList s.2 xs.toList (demEnv env) a.tmps hps hlen hxs hs.f.size (fun i => by rw [demEnv_get]; exact ((hs.f.slot i).demote).mono hcov)
        have hz : (ps.zip xs).foldl (fun tmps (t, a) => tmps.setIfInBounds t a) a.tmps = (ps.toList.zip xs.toList).foldl (fun t (q : Nat × Value) => t.setIfInBounds q.1 q.2) a.tmps := by
          rw [← Array.toList_zip, Array.foldl_toList]
        rw [← hz] at this
        exact @St.mk (roundDS l) _ _ _ _ _ _ _ _ _ (@FRel.mk (roundDS l) _ _ _ _ _ _ this.1 (fun i => .inl (this.2 i)) ⟨⟨[], rfl, .nil, by simp⟩, fun l' hl' => by cases hl'; exact ⟨_, hl2, hi2, hO2, hF2⟩⟩) hh2 (Ext.refl _ _ _)
      refine Go.wpIn_mono (hx (roundDS l) (d + 1 + 1) (some l) w2 g2 _ _ w2 g2 _ _ ⟨.inr hdx, .inr (.inr ⟨l, rfl, rfl⟩)⟩ hst hA) fun e a3 w3 hq => ?_
      obtain ⟨e', g3, env3, h3, he, hq, ⟨⟨hts3, hsl3, hdf3⟩, hhs3, hxs3⟩⟩ := hq
      cases e' <;> cases e <;> simp only [ExRel] at he <;> simp only [thenQ, noX] at hq
      have hsz2 : W1.heap.size ≤ w2.heap.size := hx2.size
      have hsz3 : W1.heap.size ≤ w3.heap.size := Nat.le_trans hsz2 hxs3.size
      have hk3 := kpx hsz2 hk2 hxs3
      obtain ⟨hl3, hi3, hO3, hF3⟩ := kpl hk3
      obtain ⟨w3', hw3'⟩ : ∃ w3', withObj w3 l (.loop (rec .busy none)) = w3' := ⟨_, rfl⟩
      have hbusy : ({ rec .ready none with state := .busy } : Go.Loop) = rec .busy none := by rw [hrec]
      refine ⟨w3', by have := run_beginRound (P := P) hl3 (by rw [hrec]); rw [hbusy] at this; rw [← hw3']; exact this, ?_⟩
      have hk3' : Kp (.loop (rec .busy none)) w3' g3 := by rw [← hw3']; exact kpo hsz3 hk3
      obtain ⟨hl3', _, _, _⟩ := kpl hk3'
      have hd3 : a3.defers = [] := hdf3.none rfl
      have hst3 : @St (roundDS l) (d + 1 + 1) n w3' g3 a3 w3' g3 env3 h3 := by
        have h1 : HRel w3' g3 h3 := by rw [← hw3']; exact hide_hrel _ hi3 hO3 hF3 hhs3
        exact @St.mk (roundDS l) _ _ _ _ _ _ _ _ _ (@FRel.mk (roundDS l) _ _ _ _ _ _ hts3 (fun i => by rw [← hw3']; exact WriteM.vat hF3 hO3 (hsl3 i)) ⟨⟨[], by rw [hd3]; rfl, .nil, by simp⟩, fun l' hl' => by cases hl'; exact ⟨_, hl3', hi3, hO3, hF3⟩⟩) h1 (Ext.refl _ _ _)
      refine Go.wpIn_mono (hy (roundDS l) (d + 1 + 1) (some l) w3' g3 _ a3 w3' g3 env3 h3 ⟨.inr hdy, .inr (.inr ⟨l, rfl, rfl⟩)⟩ hst3 hq) fun e a4 w4 hq => ?_
      obtain ⟨e', g4, env4, h4, he, hq, ⟨⟨hts4, hsl4, hdf4⟩, hhs4, hxs4⟩⟩ := hq
      have hsz3' : W1.heap.size ≤ w3'.heap.size := by rw [← hw3', hszo]; exact hsz3
      have hsz4 : W1.heap.size ≤ w4.heap.size := Nat.le_trans hsz3' hxs4.size
      have hk4 := kpx hsz3' hk3' hxs4
      obtain ⟨hl4, hi4, hO4, hF4⟩ := kpl hk4
      have fin : ∀ jump : Option Code, (Instr.endRound l jump).run P w4 = .ok (.bool jump.isNone) (withObj w4 l (.loop (rec (if jump.isNone then .ready else .done) jump))) := fun jump => by
        have := run_endRound (P := P) jump hl4
        rw [hrec] at this ⊢
        exact this
      have hxw3 : Ext (d + 1) w gh w3' g3 := by rw [← hw3']; exact hide_ext _ hwl hF3 ((hx1.trans hx2).trans (hxs3.up (Nat.le_succ _)))
      have hxw4 : ∀ o, Ext (d + 1) w gh (withObj w4 l o) g4 := fun o => hide_ext _ hwl hF4 (hxw3.trans (hxs4.up (Nat.le_succ _)))
      have hx25 : Ext (d + 1 + 1) w2 g2 (withObj w4 l (.loop (rec .ready none))) g4 := hide_through hl2 hi2 hO2 hF2 hxs3 (by rw [hw3']; exact hxs4)
      have stop : ∀ (ex : Ex) (jc : Code), ExJ ex jc → Q ex env h4 → ∃ g3 h3, HRel (withObj w4 l (.loop (rec .done (some jc)))) g3 h3 ∧ (((Ending.returned (.bool false)) = .returned (.bool true) ∧ Ext (d + 1 + 1) w2 g2 (withObj w4 l (.loop (rec .done (some jc)))) g3 ∧ (∀ i ∈ own, h3[i]? = (updH s.1 h1)[i]?) ∧ J ss' (withObj w4 l (.loop (rec .done (some jc)))) g3 h3) ∨
          ((Ending.returned (.bool false)) = .returned (.bool false) ∧ (∃ w' o, withObj w4 l (.loop (rec .done (some jc))) = withObj w' l o ∧ Ext (d + 1 + 1) w2 g2 w' g3 ∧ l ∉ g3.ι ∧ g3.O l = none ∧ g3.F l = 0) ∧ Jx (withObj w4 l (.loop (rec .done (some jc)))) g3 h3)) :=
        fun ex jc hej hq => ⟨g4, h4, hide_hrel _ hi4 hO4 hF4 hhs4, .inr ⟨rfl, ⟨_, .loop (rec .done (some jc)), (withObj_withObj _ _ _ _).symm, hx25, hi4, hO4, hF4⟩, ex, jc, hej, hq, hxw4 _, kpo hsz4 hk4⟩⟩
      cases e' <;> cases e <;> simp only [ExRel] at he <;> simp only [roundK] at hq
      case normal.normal =>
        have hd4 : a4.defers = [] := hdf4.none rfl
        have hk5 : Kp (.loop (rec .ready none)) (withObj w4 l (.loop (rec .ready none))) g4 := kpo hsz4 hk4
        have hst5 : @St (roundDS l) (d + 1 + 1) n w2 g2 a4 (withObj w4 l (.loop (rec .ready none))) g4 env4 h4 :=
          @St.mk (roundDS l) _ _ _ _ _ _ _ _ _ (@FRel.mk (roundDS l) _ _ _ _ _ _ hts4 (fun i => WriteM.vat hF4 hO4 (hsl4 i)) ⟨⟨[], by rw [hd4]; rfl, .nil, by simp⟩, fun l' hl' => by cases hl'; exact ⟨_, (kpl hk5).1, hi4, hO4, hF4⟩⟩) (hide_hrel _ hi4 hO4 hF4 hhs4) hx25
        obtain ⟨g5, env5, h5, ⟨_, hhs5, hxs5⟩, hown, hk⟩ := round_wk hh2 hst5 hq
        exact ⟨_, _, fin none, g5, h5, hhs5, .inl ⟨rfl, hxs5, hown, hk, hx2.trans (hxs5.up (Nat.le_succ _))⟩⟩
      case exit.exit i j => subst he; exact ⟨_, _, fin (some _), stop (.exit i) _ rfl hq⟩
      case goto.goto i j => subst he; exact ⟨_, _, fin (some _), stop (.goto i) _ rfl hq⟩
      case ret.ret => exact ⟨_, _, fin (some _), stop .ret _ rfl hq⟩
    have hcall : CallsIn Fence.wide 0 P f (#[.func (.yield l) #[] #[]] ++ ca) W1 _ := hlaw (d + 1) W1 gh ca l J Jx hh1 (hcaps.mono hx1.cov) ⟨hro, Ext.refl _ _ _⟩ hY
    refine CallsIn.mono (F := FR ro) (n := 0) hcall ?_
    have frel : ∀ {W : World} {G : Gh}, Ext (d + 1) w gh W G → (∀ b, b ≠ l → w.heap.size ≤ b → b < W1.heap.size → W.heap[b]? = W1.heap[b]? ∧ b ∉ G.ι ∧ G.O b = none ∧ G.F b = 0) → FRel d n { a with defers := mark ++ a.defers } W G env := fun hxw hkp =>
      ⟨hs.f.size, fun i => (hs.f.slot i).ext hxw (Nat.lt_succ_self d) hs.h.apart, hmk _ _ hxw hkp⟩
    rintro e W ⟨⟨v, rfl⟩, w1, g1, h1, g', (⟨hro', hxe⟩ | ⟨ex, jc, hej, hq, hxw1, hkp1⟩), hx', hh'⟩
    · simp only [roundsQ] at hro'
      have hxe2 : Ext (d + 1) W1 gh W g' := hxe.trans hx'
      have hk := kp1 hxe2
      obtain ⟨hl', hi', hO', hF'⟩ := kpl hk
      have hend := run_endLoop (P := P) hl' (by rw [hrec]; simp)
      rw [hrec] at hend
      have hxf : Ext (d + 1) w gh (withObj W l (.loop { (rec .ready none) with state := .exhausted })) g' := hide_ext _ hwl hF' (hx1.trans hxe2)
      rw [hrec] at hxf
      refine ⟨none, _, hend, .normal, g', env, h1, trivial, hro', frel hxf fun b hb h1 h2 => ?_, hide_hrel _ hi' hO' hF' hh', hs.x.trans (hxf.up (Nat.le_succ d))⟩
      obtain ⟨k1, k2⟩ := hk b h1 h2
      rw [if_neg hb] at k1
      exact ⟨(withObj_other hb).trans k1, k2⟩
    · have hsw : W1.heap.size ≤ w1.heap.size := by
        obtain ⟨k1, _⟩ := hkp1 (W1.heap.size - 1) (by omega) (by omega)
        have : ∃ o, w1.heap[W1.heap.size - 1]? = some o := by
          rw [k1]
          split
          · exact ⟨_, rfl⟩
          · exact ⟨_, Array.getElem?_eq_getElem (by omega)⟩
        obtain ⟨o, ho⟩ := this
        have := (Array.getElem?_eq_some_iff.1 ho).1
        omega
      have hkp := kpx hsw hkp1 hx'
      have hxw := hxw1.trans hx'
      obtain ⟨hl', hi', hO', hF'⟩ := kpl hkp
      have hend := run_endLoop (P := P) hl' (by rw [hrec]; simp)
      rw [hrec] at hend
      have hxf : Ext (d + 1) w gh (withObj W l (.loop { (rec .done (some jc)) with state := .exhausted })) g' := hide_ext _ hwl hF' hxw
      rw [hrec] at hxf
      have hst : St d n w0 g0 { a with defers := mark ++ a.defers } (withObj W l (.loop { state := .exhausted, pending := some jc, fn := fnn, tmps := a.tmps, params := ps, assign := x, body := y, defers := dfs })) g' env h1 := by
        refine ⟨frel hxf fun b hb h1 h2 => ?_, hide_hrel _ hi' hO' hF' hh', hs.x.trans (hxf.up (Nat.le_succ d))⟩
        obtain ⟨k1, k2⟩ := hkp b h1 h2
        rw [if_neg hb] at k1
        exact ⟨(withObj_other hb).trans k1, k2⟩
      refine ⟨some jc, _, hend, ?_⟩
      show jc.wpIn (FR ro) 0 P (QC d n w0 g0 Q) _ _
      cases ex <;> simp only [ExJ] at hej
      case ret => subst hej; exact Go.wpIn_ret ⟨.ret, g', env, h1, trivial, hq, hst⟩
      case exit i => subst hej; exact Go.wpIn_exit ⟨.exit i, g', env, h1, rfl, hq, hst⟩
      case goto i => subst hej; exact Go.wpIn_goto ⟨.goto i, g', env, h1, rfl, hq, hst⟩
  cases ro with
  | none =>
    obtain ⟨b0, hb0, hle⟩ : ∃ b, DS.base.top = some b ∧ b ≤ w0.heap.size := by
      rcases hnd.2 with h | ⟨_, h⟩ | ⟨l, h, _⟩
      · simp [noRangeC] at h
      · exact h
      · cases h
    have hG1 : Grow w gh (w.alloc (.deferred (some []))) gh := grow_alloc0 hs.h _
    have hG2 : Grow (w.alloc (.deferred (some []))) gh ((w.alloc (.deferred (some []))).alloc (.loop { state := .ready, pending := none, fn := fnn, tmps := a.tmps, params := ps, assign := x, body := y, defers := w.heap.size })) gh := grow_alloc0 (hG1.hrel hs.h) _
    refine core (w.heap.size + 1) _ _ w.heap.size (run_enterLoop_outer _ _ _ _ _) ?_ (Nat.le_succ _) (hG1.trans hG2) fun W G hxw hkp => ?_
    · have := World.alloc_heap_new (w.alloc (.deferred (some []))) (.loop { state := .ready, pending := none, fn := fnn, tmps := a.tmps, params := ps, assign := x, body := y, defers := w.heap.size })
      rwa [World.size_alloc] at this
    · obtain ⟨⟨Ds, e, hn, hm⟩, hlp⟩ := hs.f.defers
      have hW : DfOK W G DS.base DS.ds a.defers := hs.f.defers.ext hxw
      obtain ⟨k1, k2, k3, k4⟩ := hkp w.heap.size (by omega) (Nat.le_refl _) (by simp [World.size_alloc]; omega)
      have hD : W.heap[w.heap.size]? = some (.deferred (some [])) := by
        rw [k1, ← World.alloc_heap_new w (.deferred (some []))]
        exact Go.RowKit.Below.heap_alloc _ _ _ (by simp)
      refine ⟨⟨w.heap.size :: Ds, by rw [e]; rfl, List.nodup_cons.2 ⟨fun hm' => ?_, hn⟩, fun D hD' => ?_⟩, hW.2⟩
      · have := (Array.getElem?_eq_some_iff.1 (hm _ hm').2.1).1
        omega
      · rcases List.mem_cons.1 hD' with rfl | hD'
        · exact ⟨⟨b0, hb0, Nat.le_trans hle hs.x.size⟩, hD, k2, k3, k4⟩
        · obtain ⟨m1, m2, m3, m4, m5⟩ := hm D hD'
          obtain ⟨j1, j2, j3, j4⟩ := hidden_kept hxw (Array.getElem?_eq_some_iff.1 m2).1 m3 m4 m5
          exact ⟨m1, j1.trans m2, j2, j3, j4⟩
  | some l0 =>
    have hlp : DS.base.lp = some l0 := by
      rcases hnd.2 with h | ⟨h, _⟩ | ⟨l, h, h'⟩
      · simp [noRangeC] at h
      · cases h
      · cases h; exact h'
    obtain ⟨r0, hr0, _⟩ := hs.f.defers.2 l0 hlp
    refine core w.heap.size [] _ r0.defers (run_enterLoop_inner hr0 _ _ _ _ _) (World.alloc_heap_new _ _) (Nat.le_refl _) (grow_alloc0 hs.h _) fun W G hxw hkp => ?_
    exact hs.f.defers.ext hxw
theorem range_sound [DS] {fo : Operand} {ps : Array Tmp} {x y : Code} (hx : SoundC P ty tk keep n x) (hy : SoundC P ty tk keep n y) {w0 : World} {g0 : Gh} {Q : PostX} {a : Act} {w : World} {gh : Gh} {env : Env} {h : H} (hnd : FrOK ro DS.base w0.heap.size (.rangeFunc fo ps x y)) (hs : St d n w0 g0 a w gh env h) (hr : wp ty (Sound P) n keep tk (.rangeFunc fo ps x y) Q env h) :
    (Code.rangeFunc fo ps x y).wpIn (FR ro) 0 P (QC d n w0 g0 Q) a w := by
  simp only [wp] at hr
  obtain ⟨gh', env', h', hs', hk⟩ := hs.here.wk hs.h hr
  exact Go.wpIn_mono (range_sound0 hx hy (hnd.sub hs.x.size (fun e => e) (fun e => e)) hs' hk) fun e a w1 hq => QC_base hs.x hq
end

section
variable {P : Program} {ty : Nat → Ty} {tk keep : List Nat} {d n : Nat} {ro : Option Nat}
variable [DS]

theorem letsQC {w0 : World} {g0 : Gh} {Q : PostX} : ¬ LetsOut (QC d n w0 g0 Q) := fun h => by
  obtain ⟨a, w, e', g, env, h', he, _⟩ := h
  cases e' <;> exact he

theorem QC_thenIn {w0 : World} {g0 : Gh} {x : Code} {Q : PostX} {nxt : Env → H → Prop} {y : Code} {a : Act} {w : World} (hx : x.wpIn (FR ro) 0 P (QC d n w0 g0 (thenQ nxt Q)) a w)
    (hy : ∀ a w g env h, St d n w0 g0 a w g env h → nxt env h → y.wpIn (FR ro) 0 P (QC d n w0 g0 Q) a w) : (Code.seq x y).wpIn (FR ro) 0 P (QC d n w0 g0 Q) a w := by
  refine Go.wpIn_seq (Go.wpIn_mono hx fun e a w hq => ?_)
  obtain ⟨e', g, env, h, he, hq, hs⟩ := hq
  have he0 := he
  cases e' <;> cases e <;> simp only [ExRel] at he <;> simp only [thenQ] at hq <;> simp only [Exit.then]
  · exact hy _ _ _ _ _ hs hq
  all_goals exact ⟨_, g, env, h, he0, hq, hs⟩


end
section
variable {P : Program} {ty : Nat → Ty} {tk keep : List Nat} {n : Nat}
mutual
theorem wpIn_sound [SortOK P] (ht : TyTab P ty) (hm : P.follows .mixedOrders = true) [dsI : DS] {d : Nat} {ro : Option Nat} {w0 : World} {g0 : Gh} : ∀ (c : Code) (Q : PostX) (a : Act) (w : World) (g : Gh) (env : Env) (h : H), FrOK ro DS.base w0.heap.size c →
    St d n w0 g0 a w g env h → wp ty (Sound P) n keep tk c Q env h → c.wpIn (FR ro) 0 P (QC d n w0 g0 Q) a w
  | .skip, Q, a, w, g, env, h, hnd, hs, hr => Go.wpIn_skip ⟨.normal, g, env, h, trivial, by simpa [wp] using hr, hs⟩
  | .label l, Q, a, w, g, env, h, hnd, hs, hr => by
    simp only [wp] at hr
    obtain ⟨g', env', h', hs', hk⟩ := hs.here.wk hs.h hr
    refine Go.wpIn_mono (Q := QC d n w g Q) ?_ fun e a w1 hq => QC_base hs.x hq
    exact Go.wpIn_label ⟨.normal, g', env', h', trivial, hk, hs'⟩
  | .region id ops draw, Q, a, w, g, env, h, hnd, hs, hr => by
    have hK : ∀ a w g env h, St d n w0 g0 a w g env h → regQ keep Q env h → QC d n w0 g0 Q .normal a w := fun a w g env h hs hk => ⟨.normal, g, _, h, trivial, hk, ⟨hs.f.keep keep, hs.h, hs.x⟩⟩
    have hX : ∀ a w g env h v u, St d n w0 g0 a w g env h → panQ Q v env h → VRel w g.F g.ι v u → QC d n w0 g0 Q (.panic [{ v := u, recovered := false }]) a w := fun a w g env h v u hs hk hv => ⟨.panic v, g, _, h, ⟨u, rfl, hv⟩, hk, hs⟩
    simp only [wp] at hr
    cases draw with
    | false =>
      simp only [Bool.false_eq_true, if_false] at hr
      cases hin : inPl ops.toList with
      | none =>
        rw [hin] at hr
        have := evalOps_sound ht hK hX ops.toList a w g env h hs hr
        exact wpIn_region_list (listIn_of_list (hnd.1.imp (fun x => x) fun e o ho => by simp only [noDefC, List.all_eq_true] at e; exact e o ho) letsQC _ (fun _ ho => ho) _ _ (by simpa using this))
      | some q =>
        rw [hin] at hr
        exact wpIn_region_list (listIn_of_list (hnd.1.imp (fun x => x) fun e o ho => by simp only [noDefC, List.all_eq_true] at e; exact e o ho) letsQC _ (fun _ ho => ho) _ _ (by simpa using sort_sound hK hin hs hr))
    | true =>
      simp only [if_true] at hr
      have hs' : St d n w0 g0 a { w with drawn := w.drawn + 1 } g env h := by
        have hg : Grow w g w.drew g := Grow.drew w g hs.h
        have hdr : ({ w with drawn := w.drawn + 1 } : World) = w.drew := rfl
        rw [hdr]
        exact ⟨hg.frel hs.h hs.f, hg.hrel hs.h, hs.x.trans (hg.ext hs.h)⟩
      rcases hr with hr | ⟨p, ks, h1, h2, hr⟩
      · have := evalAny_sound ht hK hX ops.toList.length (Array.replicate ops.toList.length false) a _ g env h hs' hr
        exact wpIn_region_any hm (anyIn_of_any (hnd.1.imp (fun x => x) fun e o ho => by simp only [noDefC, List.all_eq_true] at e; exact e o ho) letsQC _ _ _ _ (by simpa using this))
      · have := evalSplit_sound ht hK hX h1 h2 a _ g env h hs' hr
        exact wpIn_region_any hm (anyIn_of_any (hnd.1.imp (fun x => x) fun e o ho => by simp only [noDefC, List.all_eq_true] at e; exact e o ho) letsQC _ _ _ _ (by simpa using this))
  | .seq x y, Q, a, w, g, env, h, hnd, hs, hr => by
    simp only [wp] at hr
    exact QC_thenIn (wpIn_sound ht hm x _ a w g env h (hnd.seq1 (Nat.le_refl _)) hs hr) fun a w g env h hs hk => wpIn_sound ht hm y Q a w g env h (hnd.seq2 (Nat.le_refl _)) hs hk
  | .cond c x y, Q, a, w, g, env, h, hnd, hs, hr => by
    simp only [wp] at hr
    split at hr
    · rename_i t hv
      have he := ev_rel (ty := ty) hs.f 0 c
      rw [hv] at he
      refine Go.wpIn_cond (t := t) he.bool_inv ?_
      cases t with
      | true => simp only [if_true] at hr ⊢; exact Go.wpIn_mono (wpIn_sound ht hm x _ a w g env h (hnd.cond1 hs.x.size) hs.here hr) fun e a w1 hq => QC_base hs.x (QC_wk hs.h hq)
      | false => simp only [Bool.false_eq_true, if_false] at hr ⊢; exact Go.wpIn_mono (wpIn_sound ht hm y _ a w g env h (hnd.cond2 hs.x.size) hs.here hr) fun e a w1 hq => QC_base hs.x (QC_wk hs.h hq)
    · exact hr.elim
  | .block id b, Q, a, w, g, env, h, hnd, hs, hr => by
    simp only [wp] at hr
    refine Go.wpIn_block (Go.wpIn_mono (wpIn_sound ht hm b _ a w g env h (hnd.blk hs.x.size) hs.here hr) fun e a w1 hq => ?_)
    have hs0 := hs
    obtain ⟨e', g1, env1, h1, he, hq, hs⟩ := hq
    have he0 := he
    cases e' <;> cases e <;> simp only [ExRel] at he <;> simp only [blockQ] at hq <;> simp only [Exit.inBlock]
    case normal.normal =>
      obtain ⟨g', env', h', hs', hk⟩ := hs.wk hs0.h hq
      exact QC_base hs0.x ⟨.normal, g', env', h', trivial, hk, hs'⟩
    case exit.exit i j =>
      subst he
      by_cases hi : i = id
      · rw [if_pos hi] at hq ⊢
        obtain ⟨g', env', h', hs', hk⟩ := hs.wk hs0.h hq
        exact QC_base hs0.x ⟨.normal, g', env', h', trivial, hk, hs'⟩
      · rw [if_neg hi] at hq ⊢; exact QC_base hs0.x ⟨.exit i, g1, env1, h1, rfl, hq, hs⟩
    all_goals exact QC_base hs0.x ⟨_, g1, env1, h1, he0, hq, hs⟩
  | .loop b, Q, a, w, g, env, h, hnd, hs, hr => by
    simp only [wp] at hr
    refine Go.wpIn_mono (Q := QC d n w g Q) ?_ fun e a w1 hq => QC_base hs.x hq
    have hh0 := hs.h
    have key := hr (fun env' h' => ∀ a' w' g', St d n w g a' w' g' env' h' → ∀ (fb : Frame) (k : List Item) (cs : List Frame) (hro : fb.roundOf = (FR ro).round) (hbf : (FR ro).fn fb.fn) (hrm : (FR ro).room (cs.length + 1 + 0)),
      ∃ e a1 w1, QC d n w g Q e a1 w1 ∧ ArrivesIn (Machine.fenced P (FR ro)) P (lone (fb.atR a' (.code b :: .inLoop b :: k)) cs w') fb k cs e a1 w1) ?_
    · intro fb k cs hro hbf hrm
      obtain ⟨g', env', h', hs', hk⟩ := hs.here.wk hs.h key
      obtain ⟨e, a', w', hq, harr⟩ := hk a w g' hs' fb k cs hro hbf hrm
      exact ⟨e, a', w', hq, .of_steps (.one (fenced_calm hbf hrm rfl) stepR_loop) harr⟩
    · intro env' h' hb a' w' g' hs' fb k cs hro hbf hrm
      obtain ⟨e, a1, w1, hq, harr⟩ := wpIn_sound ht hm b _ a' w' g' env' h' (hnd.lp hs.x.size) hs' hb fb (.inLoop b :: k) cs hro hbf hrm
      obtain ⟨e', g1, env1, h1, he, hq, hs1⟩ := hq
      have he0 := he
      cases e' <;> cases e <;> simp only [ExRel] at he <;> simp only [thenQ] at hq
      case normal.normal =>
        obtain ⟨g2, env2, h2, hs2, hk⟩ := hs1.wk hh0 hq
        obtain ⟨e2, a2, w2, hq2, harr2⟩ := hk a1 w1 g2 hs2 fb k cs hro hbf hrm
        exact ⟨e2, a2, w2, hq2, .of_steps (StepsIn.trans harr (.one (fenced_calm hbf hrm rfl) stepR_inLoop)) harr2⟩
      all_goals exact ⟨_, a1, w1, ⟨_, g1, env1, h1, he0, hq, hs1⟩, .pass (x := .inLoop b) rfl (fun _ _ => .inl (by simp)) harr⟩
  | .exit id, Q, a, w, g, env, h, hnd, hs, hr => Go.wpIn_exit ⟨.exit id, g, env, h, rfl, by simpa [wp] using hr, hs⟩
  | .goto l, Q, a, w, g, env, h, hnd, hs, hr => Go.wpIn_goto ⟨.goto l, g, env, h, rfl, by simpa [wp] using hr, hs⟩
  | .ret, Q, a, w, g, env, h, hnd, hs, hr => Go.wpIn_ret ⟨.ret, g, env, h, trivial, by simpa [wp] using hr, hs⟩
  | .scope b, Q, a, w, g, env, h, hnd, hs, hr => by
    simp only [wp] at hr
    refine Go.wpIn_mono (Q := QC d n w g Q) ?_ fun e a w1 hq => QC_base hs.x hq
    have hh0 := hs.h
    -- what follows a jump to a label
    let Go' : Nat → Env → H → Prop := fun l env' h' => ∀ a' w' g', St d n w g a' w' g' env' h' → ∀ rest, findLabel b l = some rest → ∀ (fb : Frame) (k : List Item) (cs : List Frame) (hro : fb.roundOf = (FR ro).round) (hbf : (FR ro).fn fb.fn) (hrm : (FR ro).room (cs.length + 1 + 0)),
      ∃ e a1 w1, QC d n w g Q e a1 w1 ∧ ArrivesIn (Machine.fenced P (FR ro)) P (lone (fb.atR a' (.code rest :: .inScope b :: k)) cs w') fb k cs e a1 w1
    have step : ∀ (c : Code) (a' : Act) (w' : World), c.wpIn (FR ro) 0 P (QC d n w g (scopeQ h b Go' Q)) a' w' → ∀ (fb : Frame) (k : List Item) (cs : List Frame) (hro : fb.roundOf = (FR ro).round) (hbf : (FR ro).fn fb.fn) (hrm : (FR ro).room (cs.length + 1 + 0)),
        ∃ e a1 w1, QC d n w g Q e a1 w1 ∧ ArrivesIn (Machine.fenced P (FR ro)) P (lone (fb.atR a' (.code c :: .inScope b :: k)) cs w') fb k cs e a1 w1 := by
      intro c a' w' hc fb k cs hro hbf hrm
      obtain ⟨e, a1, w1, hq, harr⟩ := hc fb (.inScope b :: k) cs hro hbf hrm
      obtain ⟨e', g1, env1, h1, he, hq, hs1⟩ := hq
      have he0 := he
      cases e' <;> cases e <;> simp only [ExRel] at he <;> simp only [scopeQ] at hq
      case normal.normal => exact ⟨.normal, a1, w1, ⟨.normal, g1, env1, h1, trivial, hq, hs1⟩, StepsIn.trans harr (.one (fenced_calm hbf hrm rfl) stepR_inScope)⟩
      case exit.exit i j => exact ⟨.exit j, a1, w1, ⟨.exit i, g1, env1, h1, he, hq, hs1⟩, fun k' hk => harr.1 k' (by simp [exitTo, hk]), fun hr' hk => harr.2 hr' (by simp [exitTo, hk])⟩
      case goto.goto l l' =>
        subst he
        cases hf : findLabel b l with
        | none =>
          rw [hf] at hq
          simp only [Option.isSome_none, Bool.false_eq_true, if_false] at hq
          exact ⟨.goto l, a1, w1, ⟨.goto l, g1, env1, h1, rfl, hq, hs1⟩, fun k' hk => harr.1 k' (by simp [gotoIn, hf, hk]), fun hr' hk => harr.2 hr' (by simp [gotoIn, hf, hk])⟩
        | some rest =>
          rw [hf] at hq
          simp only [Option.isSome_some, if_true] at hq
          obtain ⟨g2, env2, h2, hs2, hk2⟩ := hs1.wk hh0 hq
          obtain ⟨e2, a2, w2, hq2, harr2⟩ := hk2 a1 w1 g2 hs2 rest hf fb k cs hro hbf hrm
          exact ⟨e2, a2, w2, hq2, .of_steps (harr.1 _ (by simp [gotoIn, hf])) harr2⟩
      case ret.ret => exact ⟨.ret, a1, w1, ⟨.ret, g1, env1, h1, trivial, hq, hs1⟩, harr⟩
      case panic.panic v c => exact ⟨.panic c, a1, w1, ⟨.panic v, g1, env1, h1, he, hq, hs1⟩, harr⟩
    have first := hr Go' (fun l env' h' hb a' w' g' hs' rest hf fb k cs hro hbf hrm => by
      obtain ⟨rest', hf', hw⟩ := wpAtIn_sound ht hm b l _ a' w' g' env' h' (hnd.scp hs.x.size) hs' hb
      rw [hf] at hf'
      injection hf' with hf'
      subst hf'
      exact step _ a' w' hw fb k cs hro hbf hrm)
    intro fb k cs hro hbf hrm
    obtain ⟨e, a', w', hq, harr⟩ := step b a w (wpIn_sound ht hm b _ a w g env h (hnd.scp hs.x.size) hs.here first) fb k cs hro hbf hrm
    exact ⟨e, a', w', hq, .of_steps (.one (fenced_calm hbf hrm rfl) stepR_scope) harr⟩
  | .rangeFunc fo ps x y, Q, a, w, g, env, h, hnd, hs, hr =>
    range_sound (fun dsI d' ro' w0 g0 Q a w g env h h1 h2 h3 => wpIn_sound ht hm (dsI := dsI) (d := d') (ro := ro') (w0 := w0) (g0 := g0) x Q a w g env h h1 h2 h3) (fun dsI d' ro' w0 g0 Q a w g env h h1 h2 h3 => wpIn_sound ht hm (dsI := dsI) (d := d') (ro := ro') (w0 := w0) (g0 := g0) y Q a w g env h h1 h2 h3) hnd hs hr
  | .refuse _, Q, a, w, g, env, h, hnd, hs, hr => by simp [wp] at hr
theorem wpAtIn_sound [SortOK P] (ht : TyTab P ty) (hm : P.follows .mixedOrders = true) [dsI : DS] {d : Nat} {ro : Option Nat} {w0 : World} {g0 : Gh} : ∀ (c : Code) (l : Nat) (Q : PostX) (a : Act) (w : World) (g : Gh) (env : Env) (h : H), FrOK ro DS.base w0.heap.size c →
    St d n w0 g0 a w g env h → wpAt ty (Sound P) n keep tk c l Q env h → ∃ rest, findLabel c l = some rest ∧ rest.wpIn (FR ro) 0 P (QC d n w0 g0 Q) a w
  | .seq x y, l, Q, a, w, g, env, h, hnd, hs, hr => by
    simp only [wpAt] at hr
    by_cases hl : hasLabel l x = true
    · rw [if_pos hl] at hr
      obtain ⟨rest, hf, hw⟩ := wpAtIn_sound ht hm x l _ a w g env h (hnd.seq1 (Nat.le_refl _)) hs hr
      exact ⟨.seq rest y, by simp [findLabel, hf], QC_thenIn hw fun a w g env h hs hk => wpIn_sound ht hm y Q a w g env h (hnd.seq2 (Nat.le_refl _)) hs hk⟩
    · rw [if_neg hl] at hr
      obtain ⟨rest, hf, hw⟩ := wpAtIn_sound ht hm y l _ a w g env h (hnd.seq2 (Nat.le_refl _)) hs hr
      refine ⟨rest, ?_, hw⟩
      rw [hasLabel_spec] at hl
      have : findLabel x l = none := by simpa using hl
      simp [findLabel, this, hf]
  | .label l', l, Q, a, w, g, env, h, hnd, hs, hr => by
    simp only [wpAt] at hr
    obtain ⟨rfl, hr⟩ := hr
    exact ⟨.skip, by simp [findLabel], Go.wpIn_skip ⟨.normal, g, env, h, trivial, hr, hs⟩⟩
  | .skip, _, _, _, _, _, _, _, _, _, hr | .region _ _ _, _, _, _, _, _, _, _, _, _, hr | .cond _ _ _, _, _, _, _, _, _, _, _, _, hr | .block _ _, _, _, _, _, _, _, _, _, _, hr | .loop _, _, _, _, _, _, _, _, _, _, hr
  | .rangeFunc _ _ _ _, _, _, _, _, _, _, _, _, _, hr | .exit _, _, _, _, _, _, _, _, _, _, hr | .scope _, _, _, _, _, _, _, _, _, _, hr | .goto _, _, _, _, _, _, _, _, _, _, hr | .ret, _, _, _, _, _, _, _, _, _, hr
  | .refuse _, _, _, _, _, _, _, _, _, _, hr => by simp [wpAt] at hr
end

/-- In a function's own frame. -/
theorem wp_sound [DS] {d : Nat} [SortOK P] (ht : TyTab P ty) (hm : P.follows .mixedOrders = true) {w0 : World} {g0 : Gh} (c : Code) (Q : PostX) (a : Act) (w : World) (g : Gh) (env : Env) (h : H) (hrg : noRangeC c = true ∨ ∃ b, DS.base.top = some b ∧ b ≤ w0.heap.size)
    (hs : St d n w0 g0 a w g env h) (hr : wp ty (Sound P) n keep tk c Q env h) : c.wp P (QC d n w0 g0 Q) a w :=
  wpIn_wide.1 (wpIn_sound (ro := none) ht hm c Q a w g env h ⟨.inl rfl, hrg.imp_right fun h => .inl ⟨rfl, h⟩⟩ hs hr)

end
end Go.Proofs.YtmjohmefhikelaaDoor.Pv
