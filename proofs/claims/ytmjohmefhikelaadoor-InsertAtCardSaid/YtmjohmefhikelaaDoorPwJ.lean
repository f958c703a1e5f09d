/- The pure evaluator, part J: parts put together; new memory. -/
import Derived.Test.YtmjohmefhikelaaDoorPwI
import Derived.Laws.MakeOwn
set_option linter.unusedVariables false
set_option linter.unusedSimpArgs false
namespace Go.Proofs.YtmjohmefhikelaaDoor.Pv
open Go
variable [DS]

section
variable {P : Program} {ty : Nat → Ty} {tk : List Nat} {d n : Nat} {a : Act} {w : World} {g : Gh} {env : Env} {h : H}

/-! ### Parts -/
omit [DS] in
theorem foldl_set (off : Nat) : ∀ (vs : List Value) (k : Nat) (cs : Array Value), off + k + vs.length ≤ cs.size →
    ((vs.zipIdx k).foldl (fun cs (x : Value × Nat) => cs.setIfInBounds (off + x.2) x.1) cs).toList = cs.toList.take (off + k) ++ (vs ++ cs.toList.drop (off + k + vs.length))
  | [], k, cs, hl => by simp
  | v :: vs, k, cs, hl => by
    simp only [List.zipIdx_cons, List.foldl_cons]
    rw [foldl_set off vs (k + 1) _ (by simp at hl ⊢; omega)]
    have hi : off + k < cs.toList.length := by simp at hl ⊢; omega
    simp only [Array.toList_setIfInBounds, List.length_cons]
    apply List.ext_getElem?
    intro j
    simp only [List.getElem?_append, List.getElem?_take, List.getElem?_drop, List.getElem?_set, List.length_take, List.length_set, List.length_cons, List.getElem?_cons]
    have hsz : off + k + (vs.length + 1) ≤ cs.toList.length := by simpa using hl
    rw [show min (off + (k + 1)) cs.toList.length = off + k + 1 by omega, show min (off + k) cs.toList.length = off + k by omega]
    by_cases h1 : j < off + k
    · rw [if_pos (by omega), if_pos (by omega), if_neg (by omega), if_pos h1, if_pos h1]
    · by_cases h2 : j = off + k
      · subst h2
        rw [if_pos (by omega), if_pos (by omega), if_pos rfl, if_pos hi, if_neg (by omega), if_pos (by omega)]
        simp
      · rw [if_neg (by omega), if_neg h1]
        by_cases h3 : j - (off + k + 1) < vs.length
        · rw [if_pos h3, if_pos (by omega)]
          rw [show j - (off + k) = (j - (off + k + 1)) + 1 by omega]
          simp
        · rw [if_neg h3, if_neg (by omega), if_neg (by omega)]
          congr 1
          omega

omit [DS] in
theorem part_set {off : Nat} {v : Value} {cs : Array Value} (hl : off + v.cells.size ≤ cs.size) :
    (v.cells.zipIdx.foldl (fun cs (x : Value × Nat) => cs.setIfInBounds (off + x.2) x.1) cs).toList = cs.toList.take off ++ (v.cells.toList ++ cs.toList.drop (off + v.cells.size)) := by
  have := foldl_set off v.cells.toList 0 cs (by simpa using hl)
  rw [← Array.foldl_toList, Array.toList_zipIdx]
  simpa using this

omit [DS] in
theorem fill_p {place : Nat → Option (Nat × Nat × Nat)} : ∀ {parts : List (Nat × Operand)} {p p' : Prop} {cs cs' : List V}, fill ty place env parts p cs = some (p', cs') → p' → p
  | [], p, p', cs, cs', h, hp => by simp only [fill, Option.some.injEq, Prod.mk.injEq] at h; obtain ⟨rfl, _⟩ := h; exact hp
  | (i, x) :: rest, p, p', cs, cs', h, hp => by
    unfold fill at h
    split at h
    · cases h
    · exact (fill_p h hp).1

omit [DS] in
theorem LRel.splice {F : Nat → Nat} {ι : List Nat} {cs new : List V} {us nus : List Value} (h1 : LRel w F ι cs us) (h2 : LRel w F ι new nus) (off : Nat) : LRel w F ι (splice cs off new) (us.take off ++ (nus ++ us.drop (off + nus.length))) := by
  unfold Pv.splice
  rw [h2.1]
  exact (h1.take off).append (h2.append (h1.drop _))

theorem fill_run {place : Nat → Option (Nat × Nat × Nat)} {mp : Nat → Option (Nat × Nat)} (hpl : ∀ i off size t, place i = some (off, size, t) → 0 < size → mp i = some (off, size)) (hf : FRel d n a w g env) :
    ∀ {parts : List (Nat × Operand)} {p p' : Prop} {cs cs' : List V} {us : Array Value}, fill ty place env parts p cs = some (p', cs') → p' → LRel w g.F g.ι cs us.toList → (∀ u ∈ us.toList, u.oneCell' = true) →
      ∃ us' : Array Value, Instr.fill mp us (parts.map fun (i, x) => (i, a.eval x)) = some us' ∧ LRel w g.F g.ι cs' us'.toList ∧ (∀ u ∈ us'.toList, u.oneCell' = true)
  | [], p, p', cs, cs', us, h, hp, hr, h1 => by
    simp only [fill, Option.some.injEq, Prod.mk.injEq] at h
    obtain ⟨rfl, rfl⟩ := h
    exact ⟨us, rfl, hr, h1⟩
  | (i, x) :: rest, p, p', cs, cs', us, h, hp, hr, h1 => by
    unfold fill at h
    split at h
    · cases h
    · rename_i off size t hpi
      obtain ⟨_, hlen, hsz, hpln, hfit⟩ := fill_p h hp
      have hv := ev_rel (ty := ty) hf t x
      have hc := hv.cells hpln
      have hus : (a.eval x).cells.size = size := by have := hc.1; simp at this; omega
      have husl : cs.length = us.size := by have := hr.1; simpa using this
      have hset := part_set (off := off) (v := a.eval x) (cs := us) (by omega)
      have hr2 := hr.splice hc off
      rw [show (a.eval x).cells.toList.length = (a.eval x).cells.size from by simp, ← hset] at hr2
      obtain ⟨us', h2, h3, h4⟩ := fill_run hpl hf h hp hr2 (fun u hu => by
        rw [hset] at hu
        rcases List.mem_append.1 hu with hu | hu
        · exact h1 u (List.mem_of_mem_take hu)
        · rcases List.mem_append.1 hu with hu | hu
          · exact hc.oneCell hpln u hu
          · exact h1 u (List.mem_of_mem_drop hu))
      refine ⟨us', ?_, h3, h4⟩
      simp only [List.map_cons, Instr.fill, hpl i off size t hpi hsz]
      rw [if_neg (by simp [hus]; omega)]
      exact h2

omit [DS] in
/-- A row of results, one an element. -/
theorem run_mapM_list {α β : Type} (f : α → Sem β) (k : α → β) : ∀ (xs : List α), (∀ x ∈ xs, (f x).run P w = .ok (k x) w) → (xs.mapM f).run P w = .ok (xs.map k) w
  | [], _ => by simp
  | x :: xs, hf => by
    have h1 := hf x List.mem_cons_self
    have h2 := run_mapM_list f k xs (fun y hy => hf y (List.mem_cons_of_mem _ hy))
    simp only [List.mapM_cons, Sem.run_bind, h1, h2, Result.andThen_ok, Sem.run_pure, List.map_cons]
omit [DS] in
theorem run_mapM {α β : Type} (f : α → Sem β) (k : α → β) (xs : Array α) (hf : ∀ x ∈ xs.toList, (f x).run P w = .ok (k x) w) : (xs.mapM f).run P w = .ok (xs.map k) w := by
  rw [Array.mapM_eq_mapM_toList, map_eq_pure_bind]
  simp only [Sem.run_bind, run_mapM_list f k xs.toList hf, Result.andThen_ok, Sem.run_pure]
  congr 1
  apply Array.ext'
  simp

include P in
theorem build_run (hty : ∀ t, TyOK P t (ty t)) (hsf : ∀ t fs, (ty t).k = .struct fs → ∀ f ∈ fs, ∃ i, P.info? f.2 = some i) (hf : FRel d n a w g env) {t : Nat} {parts : Array (Nat × Operand)} {p : Prop} {cs : List V}
    (h : fill ty (placeOf ty t) env parts.toList (buildOk ty t ∧ 0 < (ty t).size ∧ (ty t).zero.all V.plain = true) (ty t).zero = some (p, cs)) (hp : p) :
    ∃ u, (Instr.build t (parts.map fun (i, x) => (i, a.eval x))).run P w = .ok u w ∧ VRel w g.F g.ι (.agg cs) u := by
  obtain ⟨hbo, hpos, hpl⟩ := fill_p h hp
  obtain ⟨i, z, hi, hs, hb, hz, hzm, hzl, hag⟩ := TyOK.get hty hpos
  have hzr : LRel w g.F g.ι (ty t).zero z.cells.toList := zms_rel hzm
  have hk := (hty t).k
  have hsize : ∀ u, 0 < (ty u).size → ((P.info? u).map (·.size)).getD 0 = (ty u).size := by
    intro u hu
    obtain ⟨i, z, hi, hs, _⟩ := TyOK.get hty hu
    simp [hi, hs]
  cases hc : (ty t).k with
  | struct fs =>
    rw [hc] at hk
    obtain ⟨F, hF, hm⟩ := hk
    have hpl2 : ∀ i off size u, placeOf ty t i = some (off, size, u) → 0 < size → (F.map fun f => (f.offset, ((P.info? f.type).map (·.size)).getD 0))[i]? = some (off, size) := by
      intro i off size u hpi hsz
      unfold placeOf at hpi
      rw [hc] at hpi
      simp only [Option.map_eq_some_iff, Prod.mk.injEq] at hpi
      obtain ⟨x, hx, rfl, rfl, rfl⟩ := hpi
      rw [← hm, List.getElem?_map] at hx
      obtain ⟨fl, hfl, rfl⟩ := Option.map_eq_some_iff.1 hx
      simp only [Array.getElem?_map]
      rw [show F[i]? = some fl from by simpa using hfl]
      simp [hsize fl.type hsz]
    obtain ⟨us', h2, h3, h4⟩ := fill_run hpl2 hf h hp hzr (hzr.oneCell hpl)
    refine ⟨.agg us', ?_, .agg _ _ (by have := h3.1; simpa using this) (fun k c u hc hu => h3.2 k c u hc (by simpa using hu))⟩
    have hmm := run_mapM (P := P) (w := w) (fun f : Field => (do Pure.pure (f.offset, ← sizeOf f.type) : Sem (Nat × Nat))) (fun f => (f.offset, ((P.info? f.type).map (·.size)).getD 0)) F (fun f hfm => by
      obtain ⟨i, hi⟩ := hsf t fs hc (f.offset, f.type) (by rw [← hm]; exact List.mem_map.2 ⟨f, hfm, rfl⟩)
      simp [sizeOf, typeInfo, hi])
    have h2' : Instr.fill (fun x => (F.map fun f => (f.offset, ((P.info? f.type).map (·.size)).getD 0))[x]?) z.cells (parts.map fun (i, x) => (i, a.eval x)).toList = some us' := by rw [Array.toList_map]; exact h2
    have hzv : (zeroValue t).run P w = .ok z w := by simp [zeroValue, typeInfo, hi, hz]
    have hun := und (P := P) hF w
    unfold Instr.build
    simp only [Sem.run_bind, hzv, hun, Result.andThen_ok, Sem.run_pure, hmm, h2']
  | arr m e =>
    rw [hc] at hk
    have hk : P.underlying t = some (.array m e) := hk
    have hpl2 : ∀ i off size u, placeOf ty t i = some (off, size, u) → 0 < size → (fun i => some (i * (ty e).size, (ty e).size) : Nat → Option (Nat × Nat)) i = some (off, size) := by
      intro i off size u hpi hsz
      unfold placeOf at hpi
      rw [hc] at hpi
      simp only [Option.some.injEq, Prod.mk.injEq] at hpi
      obtain ⟨rfl, rfl, rfl⟩ := hpi
      rfl
    obtain ⟨us', h2, h3, h4⟩ := fill_run hpl2 hf h hp hzr (hzr.oneCell hpl)
    refine ⟨.agg us', ?_, .agg _ _ (by have := h3.1; simpa using this) (fun k c u hc hu => h3.2 k c u hc (by simpa using hu))⟩
    have hz0 : 0 < (ty e).size := by simpa [buildOk, hc] using hbo
    have hso := run_sizeOf' hty hz0 w
    have h2' : Instr.fill (fun i => some (i * (ty e).size, (ty e).size)) z.cells (parts.map fun (i, x) => (i, a.eval x)).toList = some us' := by rw [Array.toList_map]; exact h2
    have hzv : (zeroValue t).run P w = .ok z w := by simp [zeroValue, typeInfo, hi, hz]
    have hun := und (P := P) hk w
    unfold Instr.build
    simp only [Sem.run_bind, hzv, hun, hso, Result.andThen_ok, Sem.run_pure, h2']
  | _ => simp [buildOk, hc] at hbo

end
end Go.Proofs.YtmjohmefhikelaaDoor.Pv
