/- The pure evaluator, part O: calls are sound. -/
import Derived.Test.YtmjohmefhikelaaDoorPwH
set_option linter.unusedVariables false
set_option linter.unusedSimpArgs false
namespace Go.Proofs.YtmjohmefhikelaaDoor.Pv
open Go
variable [DS]

omit [DS] in
theorem V.Cl.cells {m : Nat} {x : V} (h : V.Cl m x) : ∀ c ∈ x.cells, V.Cl m c := by
  intro c hc
  cases h <;> simp only [V.cells, List.mem_singleton] at hc <;> first
    | (subst hc; constructor <;> assumption)
    | (rename_i hx; exact hx c hc)
omit [DS] in
theorem V.Cl.of_cells {m : Nat} {x : V} (h : ∀ c ∈ x.cells, V.Cl m c) : V.Cl m x := by
  cases x <;> simp only [V.cells, List.mem_singleton, forall_eq] at h <;> first | exact h | exact .agg _ h
omit [DS] in
theorem flat_len {sz : Nat} : ∀ {xs : List V}, (∀ x ∈ xs, x.cells.length = sz) → (xs.flatMap V.cells).length = xs.length * sz
  | [], _ => by simp
  | x :: xs, hw => by
    simp only [List.flatMap_cons, List.length_append, List.length_cons, Nat.add_mul, Nat.one_mul]
    rw [flat_len (fun y hy => hw y (List.mem_cons_of_mem _ hy)), hw x List.mem_cons_self]
    omega
omit [DS] in
theorem VRel.cl {w : World} {F : Nat → Nat} {ι : List Nat} {v : V} {u : Value} (h : VRel w F ι v u) : V.Cl ι.length v := by
  induction h with
  | bool b => exact .bool b
  | int k n => exact .int k n
  | flt k n => exact .flt k n
  | cpx k a b => exact .cpx k a b
  | str s l h => exact .str l
  | sl0 sz a cap => exact .sl _ _ (by simp)
  | sl sz xs b off len cap vals hlen hcap hsz hw hv hcov hc h1 hr ih =>
    refine .sl _ _ fun x hx => V.Cl.of_cells fun c hcx => ?_
    obtain ⟨k, hk, rfl⟩ := List.mem_iff_getElem.1 (List.mem_flatMap.2 ⟨x, hx, hcx⟩)
    have hl : (xs.flatMap V.cells).length = vals.length := by
      rw [hv]; exact flat_len hw
    exact ih k _ (vals[k]'(by omega)) (List.getElem?_eq_getElem hk) (List.getElem?_eq_getElem _)
  | cap0 sz a => exact .cap _ _ (by simp)
  | cap sz xs b off len vals hlen hsz hw hv hcov hc h1 hr ih =>
    refine .cap _ _ fun x hx => V.Cl.of_cells fun c hcx => ?_
    obtain ⟨k, hk, rfl⟩ := List.mem_iff_getElem.1 (List.mem_flatMap.2 ⟨x, hx, hcx⟩)
    have hl : (xs.flatMap V.cells).length = vals.length := by
      rw [hv]; exact flat_len hw
    exact ih k _ (vals[k]'(by omega)) (List.getElem?_eq_getElem hk) (List.getElem?_eq_getElem _)
  | slen n a cap => exact .slen _
  | own0 e sz a => exact .own _ _ _ (by simp)
  | nils e sz => exact .nils e sz
  | pri0 o e sz a ho => exact .pri _ _ _ _ (by simp)
  | raw u => exact .raw u
  | msl id off len sz cap b a hcap hid ha => exact .msl _ _ _ _ (List.getElem?_eq_some_iff.1 hid).1
  | ref id off b hid => exact .ref _ _ (List.getElem?_eq_some_iff.1 hid).1
  | imm cs b off vals hv hcov hc h1 hr ih =>
    refine .imm _ fun x hx => ?_
    obtain ⟨k, hk, rfl⟩ := List.mem_iff_getElem.1 hx
    exact ih k _ (vals[k]'(by omega)) (List.getElem?_eq_getElem hk) (List.getElem?_eq_getElem _)
  | nilp => exact .nilp
  | map id b hid => exact .map _ (List.getElem?_eq_some_iff.1 hid).1
  | nilm => exact .nilm
  | func fn fs cs fa ca hf hcl hfr hcr ihf ihc =>
    refine .func _ _ _ (fun x hx => ?_) (fun x hx => ?_)
    · obtain ⟨k, hk, rfl⟩ := List.mem_iff_getElem.1 hx
      exact ihf k _ (fa[k]'(by omega)) (List.getElem?_eq_getElem hk) (Array.getElem?_eq_getElem _)
    · obtain ⟨k, hk, rfl⟩ := List.mem_iff_getElem.1 hx
      exact ihc k _ (ca[k]'(by omega)) (List.getElem?_eq_getElem hk) (Array.getElem?_eq_getElem _)
  | nilf => exact .nilf
  | iface t v u h ih => exact .iface _ _ ih
  | nili => exact .nili
  | agg cs ca hl hr ih =>
    refine .agg _ fun x hx => ?_
    obtain ⟨k, hk, rfl⟩ := List.mem_iff_getElem.1 hx
    exact ih k _ (ca[k]'(by omega)) (List.getElem?_eq_getElem hk) (Array.getElem?_eq_getElem _)
  | tup cs ca hl hr ih =>
    refine .tup _ fun x hx => ?_
    obtain ⟨k, hk, rfl⟩ := List.mem_iff_getElem.1 hx
    exact ih k _ (ca[k]'(by omega)) (List.getElem?_eq_getElem hk) (Array.getElem?_eq_getElem _)
  | top u => exact .top

omit [DS] in
theorem VRel.trunc {w : World} {F F' : Nat → Nat} {ι : List Nat} {m : Nat} {v : V} {u : Value} (h : VRel w F ι v u) (hF : ∀ b, F b ≤ F' b) (hc : V.Cl m v) : VRel w F' (ι.take m) v u := by
  have hid' : ∀ {id b : Nat}, ι[id]? = some b → id < m → (ι.take m)[id]? = some b := fun hid hlt => by rw [List.getElem?_take, if_pos hlt]; exact hid
  induction h with
  | bool b => exact .bool b
  | int k n => exact .int k n
  | flt k n => exact .flt k n
  | cpx k a b => exact .cpx k a b
  | str s l h => exact .str s l h
  | sl0 sz a cap => exact .sl0 sz a cap
  | sl sz xs b off len cap vals hlen hcap hsz hw hv hcov hcc h1 hr ih =>
    cases hc with
    | sl _ _ hcx =>
      refine .sl sz xs b off len cap vals hlen hcap hsz hw hv (Nat.le_trans hcov (hF b)) hcc h1 (fun k c u hk hu => ih k c u hk hu ?_)
      obtain ⟨x, hx, hcm⟩ := List.mem_flatMap.1 (List.mem_of_getElem? hk)
      exact (hcx x hx).cells c hcm
  | cap0 sz a => exact .cap0 sz a
  | cap sz xs b off len vals hlen hsz hw hv hcov hcc h1 hr ih =>
    cases hc with
    | cap _ _ hcx =>
      refine .cap sz xs b off len vals hlen hsz hw hv (Nat.le_trans hcov (hF b)) hcc h1 (fun k c u hk hu => ih k c u hk hu ?_)
      obtain ⟨x, hx, hcm⟩ := List.mem_flatMap.1 (List.mem_of_getElem? hk)
      exact (hcx x hx).cells c hcm
  | slen n a cap => exact .slen n a cap
  | own0 e sz a => exact .own0 e sz a
  | nils e sz => exact .nils e sz
  | pri0 o e sz a ho => exact .pri0 o e sz a ho
  | raw u => exact .raw u
  | msl id off len sz cap b a hcap hid ha => cases hc with | msl _ _ _ _ hlt => exact .msl id off len sz cap b a hcap (hid' hid hlt) ha
  | ref id off b hid => cases hc with | ref _ _ hlt => exact .ref id off b (hid' hid hlt)
  | imm cs b off vals hv hcov hcc h1 hr ih =>
    cases hc with
    | imm _ hcx => exact .imm cs b off vals hv (Nat.le_trans hcov (hF b)) hcc h1 (fun k c u hk hu => ih k c u hk hu (hcx c (List.mem_of_getElem? hk)))
  | nilp => exact .nilp
  | map id b hid => cases hc with | map _ hlt => exact .map id b (hid' hid hlt)
  | nilm => exact .nilm
  | func fn fs cs fa ca hf hcl hfr hcr ihf ihc =>
    cases hc with
    | func _ _ _ h1 h2 => exact .func fn fs cs fa ca hf hcl (fun k c u hk hu => ihf k c u hk hu (h1 c (List.mem_of_getElem? hk))) (fun k c u hk hu => ihc k c u hk hu (h2 c (List.mem_of_getElem? hk)))
  | nilf => exact .nilf
  | iface t v u h ih => cases hc with | iface _ _ h1 => exact .iface t v u (ih h1)
  | nili => exact .nili
  | agg cs ca hl hr ih => cases hc with | agg _ h1 => exact .agg cs ca hl (fun k c u hk hu => ih k c u hk hu (h1 c (List.mem_of_getElem? hk)))
  | tup cs ca hl hr ih => cases hc with | tup _ h1 => exact .tup cs ca hl (fun k c u hk hu => ih k c u hk hu (h1 c (List.mem_of_getElem? hk)))
  | top u => exact .top u


section
variable {P : Program} {ty : Nat → Ty} {tk keep : List Nat} {d n : Nat} {w w1 : World} {g g1 : Gh} {h h1 : H}

omit [DS] in
theorem VAt.cl {p : Place} {v : V} {u : Value} (hv : VAt w g p v u) : V.Cl g.ι.length v := by
  rcases hv with hv | ⟨pr, e, sz, xs, b, off, cap, cur, vals, rfl, rfl, hb, hcap, hmx, hcs, htk, hvl, hsz, hw, h1, hr, hF, hO, htag⟩
  · exact hv.cl
  · have key : ∀ x ∈ xs, V.Cl g.ι.length x := fun x hx => V.Cl.of_cells fun c hcx => ?_
    · cases pr with
      | none => exact .own _ _ _ key
      | some o => exact .pri _ _ _ _ key
    obtain ⟨k, hk, rfl⟩ := List.mem_iff_getElem.1 (List.mem_flatMap.2 ⟨x, hx, hcx⟩)
    have hl := hr.1
    exact (hr.2 k _ (vals[k]'(by omega)) (List.getElem?_eq_getElem hk) (List.getElem?_eq_getElem _)).cl
omit [DS] in
theorem HRel.cl (hh : HRel w g h) : ∀ o ∈ h, AObj.Cl h.length o := by
  intro o ho
  obtain ⟨id, hid, rfl⟩ := List.mem_iff_getElem.1 ho
  have hι : id < g.ι.length := by rw [hh.len]; exact hid
  have hob := hh.obj id h[id] g.ι[id] (List.getElem?_eq_getElem hid) (List.getElem?_eq_getElem hι)
  have hlen := hh.len
  cases hc : h[id] with
  | cells t cs =>
    rw [hc] at hob
    obtain ⟨c, e, h1, ⟨h2, _⟩, h3, _⟩ := hob
    intro x hx
    obtain ⟨k, hk, rfl⟩ := List.mem_iff_getElem.1 hx
    have := (h3 k _ (c[k]'(by omega)) (List.getElem?_eq_getElem hk) (Array.getElem?_eq_getElem _)).1.cl
    rw [hlen] at this; exact this
  | map es =>
    rw [hc] at hob
    obtain ⟨ces, clock, h1, h2, h3, _⟩ := hob
    intro k v hx
    obtain ⟨j, hj, he⟩ := List.mem_iff_getElem.1 hx
    have := h3 j k v (ces[j]'(by omega)) (by rw [List.getElem?_eq_getElem hj, he]) (Array.getElem?_eq_getElem _)
    have h4 := this.1.cl
    have h5 := this.2.cl
    rw [hlen] at h4 h5; exact ⟨h4, h5⟩
  | siter s p => trivial
  | miter m n left last =>
    rw [hc] at hob
    obtain ⟨bm, h1, _⟩ := hob
    show m < h.length
    rw [← hlen]
    exact (List.getElem?_eq_some_iff.1 h1).1

/-- The ghost when the call's own objects are gone: their rows are covered whole. -/
def Gh.leave (g : Gh) (w : World) (m : Nat) : Gh :=
  { F := fun b => if b ∈ g.ι.drop m then (match w.heap[b]? with | some (.cells c _ _) => c.size | _ => 0) else g.F b, ι := g.ι.take m, O := g.O }

omit [DS] in
theorem leave_le {m : Nat} (hh : HRel w g h) : ∀ b, g.F b ≤ (g.leave w m).F b := by
  intro b
  simp only [Gh.leave]
  split
  · rename_i hb
    rw [(hh.apart b (List.mem_of_mem_drop hb)).1]; exact Nat.zero_le _
  · exact Nat.le_refl _
omit [DS] in
theorem VAt.leave {p : Place} {v : V} {u : Value} {m : Nat} (hh : HRel w g h) (hv : VAt w g p v u) (hc : V.Cl m v) : VAt w (g.leave w m) p v u := by
  have hF : ∀ b, g.F b ≤ (g.leave w m).F b := by
    intro b
    simp only [Gh.leave]
    split
    · rename_i hb
      rw [(hh.apart b (List.mem_of_mem_drop hb)).1]; exact Nat.zero_le _
    · exact Nat.le_refl _
  rcases hv with hv | ⟨pr, e, sz, xs, b, off, cap, cur, vals, rfl, rfl, hb, hcap, hmx, hcs, htk, hvl, hsz, hw, h1, hr, hFb, hO, htag⟩
  · exact .inl (hv.trunc hF hc)
  · have hnb : b ∉ g.ι.drop m := fun hm => by have := (hh.apart b (List.mem_of_mem_drop hm)).2.1; rw [hO] at this; cases this
    refine .inr ⟨pr, e, sz, xs, b, off, cap, cur, vals, rfl, rfl, hb, hcap, hmx, hcs, htk, hvl, hsz, hw, h1, ⟨hr.1, fun k c u hk hu => (hr.2 k c u hk hu).trunc hF ?_⟩, by simp only [Gh.leave]; rw [if_neg hnb]; exact hFb, hO, htag⟩
    have hcx : ∀ x ∈ xs, V.Cl m x := by
      cases pr with
      | none => cases hc with | own _ _ _ hcx => exact hcx
      | some o => cases hc with | pri _ _ _ _ hcx => exact hcx
    obtain ⟨x, hx, hcm⟩ := List.mem_flatMap.1 (List.mem_of_getElem? hk)
    exact (hcx x hx).cells c hcm

omit [DS] in
theorem AObj.Like.cl {m : Nat} {o o' : AObj} (h : AObj.Like o o') (k : AObj.Cl m o) : AObj.Cl m o' := by
  have up : ∀ {v : V}, V.Cl 0 v → V.Cl m v := fun hv => by
    induction hv with
    | ref id off hlt => exact absurd hlt (Nat.not_lt_zero _)
    | msl id off len sz hlt => exact absurd hlt (Nat.not_lt_zero _)
    | map id hlt => exact absurd hlt (Nat.not_lt_zero _)
    | sl _ _ _ ih => exact .sl _ _ ih
    | cap _ _ _ ih => exact .cap _ _ ih
    | own _ _ _ _ ih => exact .own _ _ _ ih
    | pri _ _ _ _ _ ih => exact .pri _ _ _ _ ih
    | imm _ _ ih => exact .imm _ ih
    | agg _ _ ih => exact .agg _ ih
    | tup _ _ ih => exact .tup _ ih
    | iface _ _ _ ih => exact .iface _ _ ih
    | func _ _ _ _ _ ih1 ih2 => exact .func _ _ _ ih1 ih2
    | _ => constructor
  cases o <;> cases o' <;> simp only [AObj.Like, reduceCtorEq] at h
  case cells.cells t cs t' cs' =>
    intro x hx
    rcases h.2.2 x hx with h1 | h1
    · exact up h1
    · exact k x h1
  case map.map es es' =>
    intro a b hab
    rcases h a b hab with h1 | h1
    · exact ⟨up h1.1, up h1.2⟩
    · exact k a b h1
  case siter.siter => trivial
  case miter.miter => injection h with e1 e2 e3 e4; subst e1; exact k
omit [DS] in
theorem leave_sound {D : Nat} {h0 : H} {w0 : World} {g0 : Gh} (hh0 : HRel w0 g0 h0) (hh : HRel w g h) (hx : Ext D w0 g0 w g) (hlen : h0.length ≤ h.length) (hcl : h.take h0.length = h0 ∨ (∀ (i : Nat) (o : AObj), (h.take h0.length)[i]? = some o → AObj.Cl h0.length o ∨ h0[i]? = some o) ∨ ∃ ids, Thrown ids h0 (h.take h0.length)) :
    Ext D w0 g0 w (g.leave w h0.length) ∧ HRel w (g.leave w h0.length) (h.take h0.length) := by
  have hg0 : g.ι.take h0.length = g0.ι := by
    apply List.ext_getElem?
    intro k
    rw [List.getElem?_take]
    have hl0 := hh0.len
    split
    · rename_i hk
      have hk0 : k < g0.ι.length := by omega
      rw [hx.cov.pre k (g0.ι[k]) (List.getElem?_eq_getElem hk0), List.getElem?_eq_getElem hk0]
    · rw [List.getElem?_eq_none (by omega)]
  have hcl' : ∀ o ∈ h.take h0.length, AObj.Cl h0.length o := by
    rcases hcl with e | hc | ⟨ids, hlt, hth⟩
    · rw [e]; exact hh0.cl
    rotate_left
    · intro o ho
      obtain ⟨i, hi, rfl⟩ := List.mem_iff_getElem.1 ho
      have hi0 : i < h0.length := by omega
      obtain ⟨o', ho', hcase⟩ := hth i h0[i] (List.getElem?_eq_getElem hi0)
      rw [List.getElem?_eq_getElem hi] at ho'
      injection ho' with ho'
      rw [ho']
      have hcl0 := hh0.cl _ (List.getElem_mem hi0)
      rcases hcase with e | ⟨_, hl⟩
      · rw [e]; exact hcl0
      · exact hl.cl hcl0
    · intro o ho
      obtain ⟨i, hi, rfl⟩ := List.mem_iff_getElem.1 ho
      rcases hc i _ (List.getElem?_eq_getElem hi) with h1 | h1
      · exact h1
      · exact hh0.cl _ (List.mem_of_getElem? h1)
  have hdrop : ∀ b ∈ g.ι.drop h0.length, b ∉ g0.ι ∧ w0.heap.size ≤ b := by
    intro b hb
    have hnd := hh.nodup
    rw [← List.take_append_drop h0.length g.ι, List.nodup_append] at hnd
    have hn : b ∉ g0.ι := fun hm => by rw [← hg0] at hm; exact hnd.2.2 b hm b hb rfl
    rcases hx.new b (List.mem_of_mem_drop hb) with h1 | h1
    · exact absurd h1 hn
    · exact ⟨hn, h1⟩
  constructor
  · refine ⟨hx.os, hx.tape, hx.output, hx.size, ⟨hx.cov.cell, fun b => ?_, fun id b hb => ?_⟩, fun b hb => .inl ?_, fun b hlt hι hc hs => ?_⟩
    · simp only [Gh.leave]
      split
      · rename_i hb
        have := (hh0.fresh b (hdrop b hb).2).1
        omega
      · exact hx.cov.le b
    · show (g.ι.take h0.length)[id]? = some b
      rw [hg0]; exact hb
    · have : b ∈ g.ι.take h0.length := hb
      rwa [hg0] at this
    · obtain ⟨e1, e2, e3⟩ := hx.kept b hlt hι hc hs
      have hnb : b ∉ g.ι.drop h0.length := fun hm => by have := (hdrop b hm).2; omega
      exact ⟨e1, by simp only [Gh.leave]; rw [if_neg hnb]; exact e2, e3⟩
  · refine ⟨by show (g.ι.take h0.length).length = _; rw [List.length_take, List.length_take, hh.len], ?_, fun id o b ho hb => ?_, fun b hb => ?_, fun b hb => ?_, hh.glob.le (leave_le hh)⟩
    · show (g.ι.take h0.length).Nodup
      rw [hg0]; exact hh0.nodup
    · have hb' : (g.ι.take h0.length)[id]? = some b := hb
      have hocl := hcl' o (List.mem_of_getElem? ho)
      rw [List.getElem?_take] at ho hb'
      split at ho
      · rename_i hlt
        rw [if_pos hlt] at hb'
        have hob := hh.obj id o b ho hb'
        have hF : ∀ b, g.F b ≤ (g.leave w h0.length).F b := by
          intro b
          simp only [Gh.leave]
          split
          · rename_i hb
            rw [(hh.apart b (List.mem_of_mem_drop hb)).1]; exact Nat.zero_le _
          · exact Nat.le_refl _
        cases o with
        | cells t vs =>
          obtain ⟨c, e, h1, h2, h3, h4⟩ := hob
          exact ⟨c, e, h1, h2, fun j v u hj hu => ⟨(h3 j v u hj hu).1.leave hh (hocl v (List.mem_of_getElem? hj)), (h3 j v u hj hu).2⟩, h4⟩
        | map es =>
          obtain ⟨ces, clock, h1, h2, h3, h4, h5⟩ := hob
          exact ⟨ces, clock, h1, h2, fun j k v e hj he => ⟨(h3 j k v e hj he).1.trunc hF (hocl k v (List.mem_of_getElem? hj)).1, (h3 j k v e hj he).2.trunc hF (hocl k v (List.mem_of_getElem? hj)).2⟩, h4, h5⟩
        | siter s pos => exact hob
        | miter m n left last =>
          obtain ⟨bm, h1, h2⟩ := hob
          refine ⟨bm, ?_, h2⟩
          show (g.ι.take h0.length)[m]? = some bm
          rw [List.getElem?_take, if_pos (show m < h0.length from hocl)]
          exact h1
      · cases ho
    · have hb' : b ∈ g.ι.take h0.length := hb
      obtain ⟨h1, h2, h3⟩ := hh.apart b (List.mem_of_mem_take hb')
      have hnb : b ∉ g.ι.drop h0.length := fun hm => (hdrop b hm).1 (by rwa [hg0] at hb')
      exact ⟨by simp only [Gh.leave]; rw [if_neg hnb]; exact h1, h2, h3⟩
    · obtain ⟨h1, h2⟩ := hh.fresh b hb
      have hnb : b ∉ g.ι.drop h0.length := fun hm => by have := (hh.apart b (List.mem_of_mem_drop hm)).2.2; omega
      exact ⟨by simp only [Gh.leave]; rw [if_neg hnb]; exact h1, h2⟩

omit [DS] in
/-- What is handed back. -/
theorem handed_rel {D i : Nat} {m : Nat} {v : V} {u : Value} (hh : HRel w g h) (hv : VAt w g (.slot D i) v u) (hc : V.Cl m (handed h m v)) : VAt w (g.leave w m) (.slot D i) (handed h m v) u := by
  by_cases hmsl : ∃ id off len, v = .msl id off len 1
  · obtain ⟨id, off, len, rfl⟩ := hmsl
    unfold handed at hc ⊢
    cases hr : h.row id with
    | none => simp only [hr]; exact .inl (.top _)
    | some cs =>
      simp only [hr] at hc ⊢
      by_cases hcnd : off + len ≤ cs.length ∧ m ≤ id
      · rw [if_pos hcnd] at hc ⊢
        have hvr : VRel w g.F g.ι (.msl id off len 1) u := by
          rcases hv with hv | ⟨pr, e, sz, xs, b, off, cap, cur, vals, he, _⟩
          · exact hv
          · cases pr <;> cases he
        cases hvr with
        | msl _ _ _ _ cap b a0 hcap hid ha =>
          obtain ⟨c, e, hb, hcs, hcr⟩ := hh.cells hr hid
          by_cases hl0 : len = 0
          · subst hl0
            simp only [List.take_zero, List.map_nil]
            exact .inl (.sl0 _ _ _)
          · obtain rfl := ha (by omega)
            have hdr : b ∈ g.ι.drop m := by
              refine List.mem_of_getElem? (i := id - m) ?_
              rw [List.getElem?_drop, show m + (id - m) = id by omega]
              exact hid
            have hF : ∀ b, g.F b ≤ (g.leave w m).F b := by
              intro b
              simp only [Gh.leave]
              split
              · rename_i hb
                rw [(hh.apart b (List.mem_of_mem_drop hb)).1]; exact Nat.zero_le _
              · exact Nat.le_refl _
            have hL := ((LRel.of_row hcs hcr).drop off).take len
            have hlen : (((cs.drop off).take len).map V.demote).length = len := by simp; omega
            have hone : ∀ x ∈ ((cs.drop off).take len).map V.demote, x.cells = [x] := by
              intro x hx
              obtain ⟨k, hk, rfl⟩ := List.mem_iff_getElem.1 hx
              simp only [List.length_map, List.length_take, List.length_drop] at hk
              have hk2 : off + k < c.size := by omega
              have h1 := hcr (off + k) (cs[off + k]'(by omega)) c[off + k] (List.getElem?_eq_getElem _) (Array.getElem?_eq_getElem _)
              have h2 := h1.1.demote
              have h3 := h1.2
              have e1 : (((cs.drop off).take len).map V.demote)[k]'(by simpa using hk) = (cs[off + k]'(by omega)).demote := by simp
              rw [e1]
              revert h2 h3
              generalize (cs[off + k]'(by omega)).demote = x
              generalize c[off + k] = y
              intro h2 h3
              cases h2 <;> first | rfl | (rename_i hz; simp [Value.oneCell'] at h3) | simp [Value.oneCell'] at h3
            have hfl : (((cs.drop off).take len).map V.demote).flatMap V.cells = ((cs.drop off).take len).map V.demote := by
              revert hone
              generalize ((cs.drop off).take len).map V.demote = xs
              intro hone
              induction xs with
              | nil => rfl
              | cons x xs ih =>
                simp only [List.flatMap_cons]
                rw [hone x List.mem_cons_self, ih (fun y hy => hone y (List.mem_cons_of_mem _ hy))]
                rfl
            refine .inl (.sl 1 _ b off len cap ((c.toList.drop off).take len) hlen.symm hcap (by omega) (fun x hx => by rw [hone x hx]; rfl) (by rw [hlen]; simp; omega) ?_ (fun k u hu => ?_) (fun u hu => ?_) (fun k x u hk hu => ?_))
            · simp only [Gh.leave]
              rw [if_pos hdr, hb]
              simp; omega
            · rw [List.getElem?_take] at hu
              split at hu
              · rw [List.getElem?_drop] at hu
                simpa [World.cell?, hb] using hu
              · cases hu
            · obtain ⟨k, hk, rfl⟩ := List.mem_iff_getElem.1 hu
              simp at hk
              have := hcr (off + k) (cs[off + k]'(by omega)) (c[off + k]'(by omega)) (List.getElem?_eq_getElem _) (Array.getElem?_eq_getElem _)
              simpa using this.2
            · rw [hfl] at hk
              have hL2 : LRel w g.F g.ι (((cs.drop off).take len).map V.demote) ((c.toList.drop off).take len) := by
                have := hL
                rw [← List.map_drop, ← List.map_take, take_drop_take (by omega)] at this
                exact this
              refine (hL2.2 k x u hk hu).trunc hF ?_
              cases hc with
              | sl _ _ hcx => exact hcx x (List.mem_of_getElem? hk)
      · rw [if_neg hcnd]; exact .inl (.top _)
  · have e : handed h m v = v := by
      unfold handed
      split
      · exact absurd ⟨_, _, _, rfl⟩ hmsl
      · rfl
    rw [e] at hc ⊢
    exact hv.leave hh hc

end
/-! ### Saying less -/
omit [DS] in
theorem Le.cells {x y : V} (h : V.Le x y) (hl : y.cells.length = x.cells.length) : LLe x.cells y.cells := by
  cases h with
  | refl v => exact LLe.refl _
  | top v =>
    refine ⟨hl.symm, fun i a b ha hb => ?_⟩
    have : b = .top := by
      cases i with
      | zero => simp [V.cells] at hb; exact hb.symm
      | succ i => simp [V.cells] at hb
    rw [this]; exact .top _
  | nsl e s => exact LLe.cons (.nsl e s) LLe.nil
  | nown e s => exact LLe.cons (.nown e s) LLe.nil
  | osl e s xs => exact LLe.cons (.osl e s xs) LLe.nil
  | lcap s xs => exact LLe.cons (.lcap s xs) LLe.nil
  | opri e s => exact LLe.cons (.opri e s) LLe.nil
  | untag o e s xs => exact LLe.cons (.untag o e s xs) LLe.nil
  | sl s xs ys hl' hc h => exact LLe.cons (.sl s xs ys hl' hc h) LLe.nil
  | own e s xs ys hl' hc h => exact LLe.cons (.own e s xs ys hl' hc h) LLe.nil
  | agg xs ys hl' h => exact ⟨hl', h⟩
  | tup xs ys hl' h => exact LLe.cons (.tup xs ys hl' h) LLe.nil
omit [DS] in
theorem LLe.append {xs ys xs' ys' : List V} (h : LLe xs ys) (k : LLe xs' ys') : LLe (xs ++ xs') (ys ++ ys') := by
  refine ⟨by simp [h.1, k.1], fun i a b ha hb => ?_⟩
  rw [List.getElem?_append] at ha hb
  rw [← h.1] at hb
  split at ha
  · rename_i hlt; rw [if_pos hlt] at hb; exact h.2 i a b ha hb
  · rename_i hlt; rw [if_neg hlt] at hb; exact k.2 _ a b ha hb
omit [DS] in
theorem LLe.flat : ∀ {xs ys : List V} (hl : xs.length = ys.length) (hc : ∀ (i : Nat) (x y : V), xs[i]? = some x → ys[i]? = some y → y.cells.length = x.cells.length) (h : ∀ (i : Nat) (x y : V), xs[i]? = some x → ys[i]? = some y → V.Le x y),
    LLe (xs.flatMap V.cells) (ys.flatMap V.cells)
  | [], [], _, _, _ => LLe.nil
  | x :: xs, y :: ys, hl, hc, h => by
    simp only [List.flatMap_cons]
    exact (Le.cells (h 0 x y rfl rfl) (hc 0 x y rfl rfl)).append (LLe.flat (by simpa using hl) (fun i a b ha hb => hc (i + 1) a b (by simpa using ha) (by simpa using hb)) (fun i a b ha hb => h (i + 1) a b (by simpa using ha) (by simpa using hb)))
omit [DS] in
theorem LLe.get {xs ys : List V} (h : LLe xs ys) {i : Nat} {y : V} (hy : ys[i]? = some y) : ∃ x, xs[i]? = some x ∧ V.Le x y := by
  have hi : i < xs.length := by rw [h.1]; exact (List.getElem?_eq_some_iff.1 hy).1
  exact ⟨xs[i], List.getElem?_eq_getElem hi, h.2 i _ _ (List.getElem?_eq_getElem hi) hy⟩
omit [DS] in
theorem wide_le {sz : Nat} {xs ys : List V} (hl : xs.length = ys.length) (hc : ∀ (i : Nat) (x y : V), xs[i]? = some x → ys[i]? = some y → y.cells.length = x.cells.length) (hw : ∀ x ∈ xs, x.cells.length = sz) : ∀ y ∈ ys, y.cells.length = sz := by
  intro y hy
  obtain ⟨i, hi, rfl⟩ := List.mem_iff_getElem.1 hy
  have hx : i < xs.length := by omega
  rw [hc i _ _ (List.getElem?_eq_getElem hx) (List.getElem?_eq_getElem hi)]
  exact hw _ (List.getElem_mem hx)

omit [DS] in
theorem VRel.le {w : World} {F : Nat → Nat} {ι : List Nat} {v v' : V} (hle : V.Le v v') : ∀ {u : Value}, VRel w F ι v u → VRel w F ι v' u := by
  have flat : ∀ {xs ys : List V} {vals : List Value}, LLe (xs.flatMap V.cells) (ys.flatMap V.cells) → (∀ (k : Nat) (x c : V) (u : Value), (xs.flatMap V.cells)[k]? = some x → (ys.flatMap V.cells)[k]? = some c → vals[k]? = some u → VRel w F ι c u) →
      ∀ (k : Nat) (c : V) (u : Value), (ys.flatMap V.cells)[k]? = some c → vals[k]? = some u → VRel w F ι c u := by
    intro xs ys vals hL ih k c u hk hu
    obtain ⟨x, hx, _⟩ := hL.get hk
    exact ih k x c u hx hk hu
  -- by how deep the first is
  have main : ∀ (m : Nat) (v v' : V), SizeOf.sizeOf v ≤ m → V.Le v v' → ∀ {u : Value}, VRel w F ι v u → VRel w F ι v' u := by
    intro m
    induction m with
    | zero => intro v v' hm; cases v <;> simp at hm <;> omega
    | succ m ih =>
      intro v v' hm hle u hr
      have lift : ∀ {xs ys : List V} {us : List Value}, (∀ x ∈ xs, SizeOf.sizeOf x ≤ m) → LLe xs ys → (∀ (k : Nat) (c : V) (u : Value), xs[k]? = some c → us[k]? = some u → VRel w F ι c u) → ∀ (k : Nat) (c : V) (u : Value), ys[k]? = some c → us[k]? = some u → VRel w F ι c u := by
        intro xs ys us hsz hL hrr k c u hk hu
        obtain ⟨x, hx, hxc⟩ := hL.get hk
        exact ih x c (hsz x (List.mem_of_getElem? hx)) hxc (hrr k x u hx hu)
      have cellsz : ∀ {x c : V}, c ∈ x.cells → SizeOf.sizeOf c ≤ SizeOf.sizeOf x := by
        intro x c hc
        cases x <;> simp only [V.cells, List.mem_singleton] at hc <;> first
          | (subst hc; exact Nat.le_refl _)
          | (have := List.sizeOf_lt_of_mem hc; simp; omega)
      have flsz : ∀ {xs : List V} {c : V}, c ∈ xs.flatMap V.cells → SizeOf.sizeOf c < SizeOf.sizeOf xs := by
        intro xs c hc
        obtain ⟨x, hx, hcx⟩ := List.mem_flatMap.1 hc
        have := List.sizeOf_lt_of_mem hx
        have := cellsz hcx
        omega
      cases hle with
      | refl => exact hr
      | top => exact .top _
      | nsl e s => cases hr; exact .sl0 _ _ _
      | nown e s => cases hr; exact .own0 _ _ _
      | osl e s xs => cases hr; exact .sl0 _ _ _
      | lcap s xs =>
        cases hr with
        | cap0 => exact .sl0 _ _ _
        | cap _ _ b off len vals hlen hsz hw hv hcov hcc h1 hrr => exact .sl s xs b off len len vals hlen (Nat.le_refl _) hsz hw hv hcov hcc h1 hrr
      | opri e s => cases hr; exact .pri0 none _ _ _ (by simp)
      | untag o e s xs => cases hr; exact .pri0 none _ _ _ (by simp)
      | sl s xs ys hl hc hx =>
        cases hr with
        | sl0 _ a cap =>
          have : ys = [] := List.eq_nil_of_length_eq_zero (by simpa using hl.symm)
          subst this; exact .sl0 _ _ _
        | sl _ _ b off len cap vals hlen hcap hsz hw hv hcov hcc h1 hrr =>
          refine .sl s ys b off len cap vals (by omega) hcap hsz (wide_le hl hc hw) (by rw [← hl]; exact hv) hcov hcc h1 (lift (fun x hx' => ?_) (LLe.flat hl hc hx) hrr)
          have := flsz hx'
          simp at hm; omega
      | own e s xs ys hl hc hx =>
        cases hr with
        | own0 =>
          have : ys = [] := List.eq_nil_of_length_eq_zero (by simpa using hl.symm)
          subst this; exact .own0 _ _ _
      | agg xs ys hl hx =>
        cases hr with
        | agg _ ca hl' hrr =>
          refine .agg ys ca (by omega) fun k c u hk hu => ?_
          refine lift (us := ca.toList) (fun x hx' => ?_) ⟨hl, hx⟩ (fun k c u hk hu => hrr k c u hk (by simpa using hu)) k c u hk (by simpa using hu)
          have := List.sizeOf_lt_of_mem hx'
          simp at hm; omega
      | tup xs ys hl hx =>
        cases hr with
        | tup _ ca hl' hrr =>
          refine .tup ys ca (by omega) fun k c u hk hu => ?_
          refine lift (us := ca.toList) (fun x hx' => ?_) ⟨hl, hx⟩ (fun k c u hk hu => hrr k c u hk (by simpa using hu)) k c u hk (by simpa using hu)
          have := List.sizeOf_lt_of_mem hx'
          simp at hm; omega
  exact fun {u} hr => main (SizeOf.sizeOf v) v v' (Nat.le_refl _) hle hr

omit [DS] in
theorem LRel.le {w : World} {F : Nat → Nat} {ι : List Nat} {cs ds : List V} {us : List Value} (h : LLe cs ds) (k : LRel w F ι cs us) : LRel w F ι ds us :=
  ⟨h.1.symm.trans k.1, fun i c u hc hu => by
    obtain ⟨x, hx, hl⟩ := h.get hc
    exact (k.2 i x u hx hu).le hl⟩

section
variable {P : Program} {ty : Nat → Ty} {tk keep : List Nat} {d n : Nat} {a : Act} {w w1 : World} {g g1 : Gh} {env env' : Env} {h h1 h' he : H}

omit [DS] in
theorem VAt.le {p : Place} {v v' : V} {u : Value} (hv : VAt w g p v u) (hle : V.Le v v') : VAt w g p v' u := by
  rcases hv with hv | ⟨pr, e, sz, xs, b, off, cap, cur, vals, rfl, rfl, hb, hcap, hmx, hcs, htk, hvl, hsz, hw, h1, hr, hF, hO, htag⟩
  · exact .inl (hv.le hle)
  · cases pr with
    | some o =>
      change V.Le (.pri o e sz xs) v' at hle
      cases hle with
      | refl => exact .inr ⟨some o, e, sz, xs, b, off, cap, cur, vals, rfl, rfl, hb, hcap, hmx, hcs, htk, hvl, hsz, hw, h1, hr, hF, hO, htag⟩
      | top => exact .inl (.top _)
      | untag => exact .inr ⟨some none, e, sz, xs, b, off, cap, cur, vals, rfl, rfl, hb, hcap, hmx, hcs, htk, hvl, hsz, hw, h1, hr, hF, hO, fun o u' ho h => by injection ho with ho; subst ho; cases h⟩
    | none =>
      change V.Le (.own e sz xs) v' at hle
      cases hle with
      | refl => exact .inr ⟨none, e, sz, xs, b, off, cap, cur, vals, rfl, rfl, hb, hcap, hmx, hcs, htk, hvl, hsz, hw, h1, hr, hF, hO, htag⟩
      | top => exact .inl (.top _)
      | opri => exact .inr ⟨some none, e, sz, [], b, off, cap, cur, vals, rfl, rfl, hb, hcap, hmx, hcs, htk, hvl, hsz, hw, h1, hr, by rw [hF]; simp [rowF], hO, fun o u' ho h => by injection ho with ho; subst ho; cases h⟩
      | osl =>
        have hv : VAt w g p (.own e sz xs) (.slice (some ⟨b, off, none⟩) xs.length cap) := .inr ⟨none, e, sz, xs, b, off, cap, cur, vals, rfl, rfl, hb, hcap, hmx, hcs, htk, hvl, hsz, hw, h1, hr, hF, hO, htag⟩
        exact .inl hv.demote
      | own _ _ _ ys hl hc hx =>
        exact .inr ⟨none, e, sz, ys, b, off, cap, cur, vals, rfl, by rw [hl], hb, by omega, hmx, hcs, by rw [← hl]; exact htk, by rw [← hl]; exact hvl, hsz, wide_le hl hc hw, h1, LRel.le (LLe.flat hl hc hx) hr, by rw [← hl]; exact hF, hO, by simp⟩

theorem FRel.le (hf : FRel d n a w g env) (hle : ∀ i, V.Le (env.get i) (env'.get i)) : FRel d n a w g env' := ⟨hf.size, fun i => (hf.slot i).le (hle i), hf.defers⟩
omit [DS] in
theorem HRel.le (hh : HRel w g h) (hl : h'.length = h.length) (ho : ∀ (i : Nat) (o' : AObj), h'[i]? = some o' → ∃ o, h[i]? = some o ∧ AObj.Le o o') : HRel w g h' := by
  refine ⟨by rw [hl]; exact hh.len, hh.nodup, fun id o' b ho' hb => ?_, hh.apart, hh.fresh, hh.glob⟩
  obtain ⟨o, h0, hle⟩ := ho id o' ho'
  have hob := hh.obj id o b h0 hb
  cases hle with
  | refl => exact hob
  | cells t xs ys hL =>
    obtain ⟨c, e, h1, h2, h3, h4⟩ := hob
    refine ⟨c, e, h1, by rw [← hL.1]; exact h2, fun j v u hj hu => ?_, h4⟩
    obtain ⟨x, hx, hxl⟩ := hL.get hj
    exact ⟨(h3 j x u hx hu).1.le hxl, (h3 j x u hx hu).2⟩

/-- A state may be told less exactly. -/
theorem weak_sound {w0 : World} {g0 : Gh} (hh0 : HRel w0 g0 he) (hf : FRel d n a w g env) (hh : HRel w g h) (hx : Ext d w0 g0 w g) (hw : Weak he env h env' h') :
    ∃ g', FRel d n a w g' env' ∧ HRel w g' h' ∧ Ext d w0 g0 w g' := by
  rcases hw.len with hl | ⟨hl, hle, hce, hco⟩
  · exact ⟨g, hf.le hw.env, hh.le hl hw.obj, hx⟩
  · -- first the same heap, told less exactly; then the rest of it goes
    let h2 : H := h' ++ h.drop he.length
    have hl2 : h2.length = h.length := by simp only [h2, List.length_append, List.length_drop]; omega
    have ho2 : ∀ (i : Nat) (o' : AObj), h2[i]? = some o' → ∃ o, h[i]? = some o ∧ AObj.Le o o' := by
      intro i o' ho
      simp only [h2, List.getElem?_append] at ho
      split at ho
      · exact hw.obj i o' ho
      · rename_i hlt
        rw [List.getElem?_drop] at ho
        exact ⟨o', by rw [← ho]; congr 1; omega, .refl _⟩
    have hh2 := hh.le hl2 ho2
    have ht : h2.take he.length = h' := by simp only [h2]; rw [← hl, List.take_left]
    obtain ⟨hx', hh'⟩ := leave_sound (D := d) hh0 hh2 hx (by omega) (.inr (.inl fun i o ho => hco i o (by rw [ht] at ho; exact ho)))
    rw [ht] at hh'
    exact ⟨_, ⟨hf.size, fun i => ((hf.slot i).le (hw.env i)).leave hh2 (hce i), hf.defers.to fun D _ e2 e3 e4 _ => ⟨rfl, fun hm => e2 (List.mem_of_mem_take hm), e3, by simp only [Gh.leave]; rw [if_neg fun hm => e2 (List.mem_of_mem_drop hm)]; exact e4⟩⟩, hh', hx'⟩
end
end Go.Proofs.YtmjohmefhikelaaDoor.Pv
