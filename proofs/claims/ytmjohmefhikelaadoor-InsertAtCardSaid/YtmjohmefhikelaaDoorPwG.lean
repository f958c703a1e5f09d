/- The pure evaluator, part G: indices, fields, loads, conversions, parts put together. -/
import Derived.Test.YtmjohmefhikelaaDoorPwF
set_option linter.unusedVariables false
set_option linter.unusedSimpArgs false
namespace Go.Proofs.YtmjohmefhikelaaDoor.Pv
open Go

section
variable {P : Program} {ty : Nat → Ty} {d n : Nat} {a : Act} {w : World} {g : Gh} {env : Env} {h : H}

/-- One element of a slice, as its cells. -/
theorem VRel.elem {sz : Nat} {xs : List V} {o : Option Addr} {len cap i : Nat} (hv : VRel w g.F g.ι (.sl sz xs) (.slice o len cap)) (hi : i < xs.length) :
    ∃ b off, o = some ⟨b, off, none⟩ ∧ VRel w g.F g.ι (.imm xs[i].cells) (.pointer (some ⟨b, off + i * sz, none⟩)) ∧ xs[i].cells.length = sz ∧ 0 < sz := by
  obtain ⟨a0, cap', hu, hcase⟩ := hv.flat
  injection hu with e1 e2 e3
  subst e1; subst e2; subst e3
  rcases hcase with rfl | ⟨hcap, b, off, vals, rfl, hsz, hw, hvl, hcov, hc, ho, hr⟩
  · simp at hi
  · refine ⟨b, off, rfl, ?_, hw _ (List.getElem_mem hi), hsz⟩
    have hmul : i * sz + sz ≤ xs.length * sz := by
      have : (i + 1) * sz ≤ xs.length * sz := Nat.mul_le_mul_right _ hi
      rw [Nat.add_mul] at this; omega
    have hrr : LRel w g.F g.ι xs[i].cells ((vals.drop (i * sz)).take sz) := by
      rw [← flat_at hw hi]
      exact (hr.drop _).take _
    have hl2 : ((vals.drop (i * sz)).take sz).length = sz := by simp only [List.length_take, List.length_drop, hvl]; omega
    refine .imm _ b _ ((vals.drop (i * sz)).take sz) (by rw [hl2]; exact (hw _ (List.getElem_mem hi)).symm) (by rw [hl2]; omega) (fun k u hu => ?_) (fun u hu => ho u (List.mem_of_mem_drop (List.mem_of_mem_take hu))) hrr.2
    rw [List.getElem?_take] at hu
    split at hu
    · rw [List.getElem?_drop] at hu
      have := hc _ u hu
      rwa [← Nat.add_assoc] at this
    · cases hu

include P in
theorem indexAddr_run (hty : ∀ t, TyOK P t (ty t)) {t : Nat} {x i : V} {xu iu : Value} {p : Prop} {v : V} (h : indexAddr ty t x i = .ok p v) (hp : p) (hx : VRel w g.F g.ι x xu) (hi : VRel w g.F g.ι i iu) :
    ∃ u, (Instr.indexAt t xu iu).run P w = .ok u w ∧ VRel w g.F g.ι v u := by
  have hk := (hty t).k
  unfold indexAddr at h
  split at h
  · rename_i e sz xs k m hkt
    rw [hkt] at hk
    have hk : P.underlying t = some (.slice e) := hk
    simp only [R1.ok.injEq] at h
    obtain ⟨rfl, rfl⟩ := h
    obtain ⟨⟨h0, h1⟩, hsz⟩ := hp
    obtain rfl := hi.int_inv
    have hx' := hx
    obtain ⟨a0, cap, rfl, hcase⟩ := hx.flat
    have hlt : m.toNat < xs.length := by omega
    obtain ⟨b, off, rfl, hel, hcl, hpos⟩ := hx'.elem hlt
    have hso := run_sizeOf' hty (t := e) (by omega) w
    have hg : xs.getD m.toNat .top = xs[m.toNat] := by simp [List.getD, List.getElem?_eq_getElem hlt]
    rw [hg]
    refine ⟨_, ?_, hel⟩
    rw [hsz]
    simp [Instr.indexAt, asIntOf, underlying, hk, h0, h1, hso, Addr.add_lit]
  · rename_i e id off len sz k m hkt
    rw [hkt] at hk
    have hk : P.underlying t = some (.slice e) := hk
    simp only [R1.ok.injEq] at h
    obtain ⟨rfl, rfl⟩ := h
    obtain ⟨⟨h0, h1⟩, hsz, hz⟩ := hp
    obtain rfl := hi.int_inv
    cases hx with
    | msl _ _ _ _ cap b a0 hcap hid ha =>
      obtain rfl := ha (by omega)
      have hso := run_sizeOf' hty (t := e) (by omega) w
      refine ⟨_, ?_, .ref _ _ b hid⟩
      rw [hsz]
      simp [Instr.indexAt, asIntOf, underlying, hk, h0, h1, hso, Addr.add_lit]
  · rename_i m e id off k i' hkt
    rw [hkt] at hk
    have hk : P.underlying t = some (.array m e) := hk
    simp only [R1.ok.injEq] at h
    obtain ⟨rfl, rfl⟩ := h
    obtain ⟨⟨h0, h1⟩, hz⟩ := hp
    obtain rfl := hi.int_inv
    cases hx with
    | ref _ _ b hid =>
      have hso := run_sizeOf' hty (t := e) hz w
      refine ⟨_, ?_, .ref _ _ b hid⟩
      simp [Instr.indexAt, Instr.sureAddr, asIntOf, underlying, hk, h0, h1, hso, Addr.add_lit]
  · cases h

/-- A value of a type out of cells: what 'part' and 'loadVar' make. -/
theorem val_rel {t : Nat} {cs : List V} {us : List Value} (hr : LRel w g.F g.ι cs us) (hl : cs.length = (ty t).size) (hp : 0 < (ty t).size) :
    VRel w g.F g.ι ((ty t).val cs) (if (ty t).agg then .agg us.toArray else us.headD undef) := by
  unfold Ty.val
  by_cases ha : (ty t).agg = true
  · rw [if_pos ha, if_pos ha]
    exact .agg _ _ (by simpa using hr.1) (fun k c u hc hu => hr.2 k c u hc (by simpa using hu))
  · rw [if_neg ha, if_neg ha]
    cases cs with
    | nil => simp at hl; omega
    | cons c cs =>
      cases us with
      | nil => have := hr.1; simp at this
      | cons u us => exact hr.2 0 c u rfl rfl

include P in
theorem loadVar_run (hty : ∀ t, TyOK P t (ty t)) {t : Nat} {b off : Nat} {us : List Value} (hc : ∀ (k : Nat) (u : Value), us[k]? = some u → w.cell? ⟨b, off + k, none⟩ = some u)
    (hl : us.length = (ty t).size) (hp : 0 < (ty t).size) : (loadVar t ⟨b, off, none⟩).run P w = .ok (if (ty t).agg then .agg us.toArray else us.headD undef) w := by
  have ha := run_isAgg hty hp w
  have hso := run_sizeOf' hty hp w
  by_cases hag : (ty t).agg = true
  · have hlc := run_loadCells_list (P := P) w ⟨b, off, none⟩ us (fun j v hj => by rw [Addr.add_lit]; exact hc j v hj)
    rw [hl] at hlc
    simp [loadVar, ha, hag, hso, hlc]
  · cases us with
    | nil => simp at hl; omega
    | cons u us =>
      have := hc 0 u rfl
      simp only [Nat.add_zero] at this
      simp [loadVar, ha, hag, this]

include P in
theorem part_run (hty : ∀ t, TyOK P t (ty t)) {t : Nat} {cs : Array Value} {off : Nat} (hl : off + (ty t).size ≤ cs.size) (hp : 0 < (ty t).size) :
    (part t cs off).run P w = .ok (if (ty t).agg then .agg ((cs.toList.drop off).take (ty t).size).toArray else ((cs.toList.drop off).take (ty t).size).headD undef) w := by
  have ha := run_isAgg hty hp w
  have hso := run_sizeOf' hty hp w
  by_cases hag : (ty t).agg = true
  · have e : cs.extract off (off + (ty t).size) = ((cs.toList.drop off).take (ty t).size).toArray := by
      apply Array.ext'
      simp [List.take_drop]
    simp [part, ha, hag, hso, e]
  · have hlt : off < cs.size := by omega
    have e : ((cs.toList.drop off).take (ty t).size).headD undef = cs[off] := by
      cases hs : (ty t).size with
      | zero => omega
      | succ m => simp [List.drop_eq_getElem_cons, hlt]
    rw [if_neg hag, e]
    simp [part, ha, hag, hlt]

include P in
theorem index_run (hty : ∀ t, TyOK P t (ty t)) {t : Nat} {x i : V} {xu iu : Value} {p : Prop} {v : V} (h : index ty t x i = .ok p v) (hp : p) (hx : VRel w g.F g.ι x xu) (hi : VRel w g.F g.ι i iu) :
    ∃ u, (Instr.index t xu iu).run P w = .ok u w ∧ VRel w g.F g.ι v u := by
  have hk := (hty t).k
  unfold index at h
  split at h
  · rename_i s k m hkt
    rw [hkt] at hk
    have hk : P.underlying t = some .string := hk
    simp only [R1.ok.injEq] at h
    obtain ⟨rfl, rfl⟩ := h
    obtain rfl := hi.int_inv
    obtain ⟨bs, rfl, hs⟩ := hx.str_inv
    have hlt : m.toNat < bs.size := by have : bs.size = s.length := by rw [← hs]; simp
                                       omega
    refine ⟨.int .u8 (bs[m.toNat]).toNat, ?_, ?_⟩
    · simp [Instr.index, asIntOf, underlying, hk, hp.1, hlt]
    · have e : s.getD m.toNat 0 = bs[m.toNat] := by
        rw [← hs]
        have h2 : m.toNat < bs.data.size := hlt
        simp [List.getD, ByteArray.getElem_eq_getElem_data, Array.getElem?_eq_getElem h2]
      rw [e]
      exact .int _ _
  · rename_i m e cs k i' hkt
    rw [hkt] at hk
    have hk : P.underlying t = some (.array m e) := hk
    simp only [R1.ok.injEq] at h
    obtain ⟨rfl, rfl⟩ := h
    obtain ⟨⟨h0, h1⟩, h2, h3⟩ := hp
    obtain rfl := hi.int_inv
    cases hx with
    | agg _ ca hl hr =>
      have hso := run_sizeOf' hty h3 w
      have hpr := part_run (w := w) hty (t := e) (cs := ca) (off := i'.toNat * (ty e).size) (by omega) h3
      refine ⟨_, ?_, val_rel (us := ((ca.toList.drop (i'.toNat * (ty e).size)).take (ty e).size)) ?_ (by simp; omega) h3⟩
      · simp [Instr.index, asIntOf, underlying, hk, h0, h1, hso, hpr]
      · have hcr : LRel w g.F g.ι cs ca.toList := ⟨by simpa using hl, fun k c u hc hu => hr k c u hc (by simpa using hu)⟩
        exact (hcr.drop _).take _
  · cases h

end
end Go.Proofs.YtmjohmefhikelaaDoor.Pv
