/- Proved: the laws NamesPlaces and NamesFresh return true for every input, and leave their arguments as they are. No conditions. -/
import Derived.Test.YthmmgcjljfndgaaG
import Derived.Test.YthmmgcjljfndgaaF
import Derived.SliceStrings
namespace Go.Proofs.Ythmmgcjljfndgaa.Pv
open Go Go.Proofs Go.ChangeShapes Go.WideShapes Go.ChangeAt Go.RowKit Go.ChangeMaps

/-- What is covered holds every cell that can be read. -/
theorem whole_of_cell {W : World} {b off : Nat} {u : Value} (h : W.cell? ⟨b, off, none⟩ = some u) : off < whole W b := by
  unfold World.cell? at h
  unfold whole
  cases hb : W.heap[b]? with
  | none => rw [hb] at h; simp at h
  | some o =>
    rw [hb] at h
    cases o <;> simp at h
    case cells c e fr =>
      rcases Nat.lt_or_ge off c.size with h' | h'
      · exact h'
      · simp [Array.getElem?_eq_none h'] at h

theorem flat_strs (l : List (List UInt8)) : (strs l).flatMap V.cells = strs l := by
  induction l with
  | nil => rfl
  | cons x r ih => simp [V.cells] at ih ⊢; exact ih

theorem strs_rel {H : Type} {enc : TypeId × Value → H} {W : World} {base : Nat} {v : Value} {d : DataW H} {p : List MemPlace} (hv : Value.okWide Try.prog W .any base 28 v) (h : DataW.Trod enc Try.prog W 0 (fun _ => true) true 28 v d p) :
    ∃ l : List (List UInt8), VRel W (whole W) [] (.sl 1 (strs l)) v := by
  obtain ⟨a0, len, cap, rfl⟩ := okWide_slice Try.underlying28 hv
  obtain ⟨fuel, hf⟩ := h
  rcases open_strings Try.underlying28 Try.underlying9 (by kernel_rfl) hf with ⟨hcs, hx⟩ | ⟨a, len', cap', ss, hcs, _, hl, hm, hss, hx, hcell, hsz⟩
  · simp [Value.cells] at hcs
    obtain ⟨rfl, rfl, rfl⟩ := hcs
    exact ⟨[], .sl0 1 none 0⟩
  · simp [Value.cells] at hcs
    obtain ⟨rfl, rfl, rfl⟩ := hcs
    simp only [if_true] at hss
    by_cases h0 : len = 0
    · subst h0
      exact ⟨[], .sl0 1 _ _⟩
    · have hspot : a.spot = none := by
        have := (hcell 0 (by omega))
        simpa [Addr.add] using World.cell?_spot this
      obtain ⟨b, off, sp⟩ := a
      simp only [] at hspot
      subst hspot
      have hc : ∀ k, k < len → W.cell? ⟨b, off + k, none⟩ = some (.string (ss.getD k ByteArray.empty)) := fun k hk => by
        have := hcell k (by omega)
        unfold Addr.add at this
        split at this
        · rename_i hk0; subst hk0; exact this
        · exact this
      have hlen : (ss.take len).length = len := by rw [List.length_take]; omega
      refine ⟨(ss.take len).map fun s => s.data.toList, .sl 1 _ b off len cap ((ss.take len).map Value.string) (by simp only [strs, List.length_map]; exact hlen.symm) hl (by decide) (fun x hx => ?_) (by simp) ?_ (fun k u hu => ?_) (fun u hu => ?_) (fun k c u hk hu => ?_)⟩
      · simp only [strs, List.mem_map] at hx
        obtain ⟨y, _, rfl⟩ := hx
        rfl
      · have := whole_of_cell (hc (len - 1) (by omega))
        simp only [List.length_map, hlen]
        omega
      · rw [List.getElem?_map] at hu
        obtain ⟨s, hs, rfl⟩ := Option.map_eq_some_iff.1 hu
        have hk : k < len := by have := (List.getElem?_eq_some_iff.1 hs).1; omega
        rw [hc k hk]
        rw [List.getElem?_take, if_pos hk] at hs
        simp [List.getD, hs]
      · simp only [List.mem_map] at hu
        obtain ⟨s, _, rfl⟩ := hu
        rfl
      · rw [flat_strs] at hk
        simp only [strs, List.getElem?_map] at hk hu
        cases hs : (ss.take len)[k]? with
        | none => rw [hs] at hu; simp at hu
        | some s =>
          rw [hs] at hk hu
          simp only [Option.map_some, Option.some.injEq] at hk hu
          subst hk; subst hu
          exact .str _ _ rfl

set_option maxRecDepth 100000 in
theorem places_lifted (os : Os) (started : os.Started) (H : Type) (enc : TypeId × Value → H) :
    ReturnsInHanded {} Try.checked os 4 .any (Rows.namesPlacesSpec.pre6 enc Try.prog Try.f4 Rows.namesPlacesRow.domain false) (Rows.namesPlacesSpec.post enc Try.prog Try.f4 false true false false) := by
  refine returnsInHanded_of_change (C := Try.checked) own started (by kernel_rfl) Try.func4
    (ChangeSpec.witness6 (enc := enc) (C := Try.checked) false ⟨#[], #[.string ⟨#[]⟩, .string ⟨#[]⟩], []⟩ 8 (by kernel_rfl) (by kernel_rfl) (by kernel_rfl) (by kernel_rfl)) ?_
  intro W base args ds gs before hval0 hW hcnd _
  have hval : ∀ (j : Nat) t v, Try.f4.params[j]? = some t → args[j]? = some v → Value.okWide Try.prog W .any base t v := hval0
  have hW' := hW
  obtain ⟨p, q, hA0, hV, rfl, hfz, hnd⟩ := hW
  have hA : DataW.TrodAll enc Try.prog W 0 (fun _ => true) true Try.f4.params.toList args.toList ds p := hA0
  rw [Try.params4] at hA hval
  obtain ⟨v0, v1, d0, d1, p0, p1, rfl, rfl, rfl, h0, h1⟩ := trodAll_two hA
  obtain ⟨rfl, rfl⟩ := trodVars_none hV
  obtain ⟨s0, rfl, rfl, rfl, w0⟩ := open_string Try.underlying9 (hval 0 9 v0 rfl rfl) h0
  obtain ⟨s1, rfl, rfl, rfl, w1⟩ := open_string Try.underlying9 (hval 1 9 v1 rfl rfl) h1
  clear hA0 hval0
  simp only [List.append_nil] at hW'
  refine (top_call (places_law s0.data.toList s1.data.toList) (LRel.cons (.str _ _ rfl) (LRel.cons (.str _ _ rfl) LRel.nil))).mono fun e W' ⟨he, hnx⟩ => ?_
  subst he
  refine ⟨_, rfl, _, _, _, [], [], [], hW', trodAll_mk1 (shut_bool Try.underlying4 _), trodAll_mk2 (shut_string Try.underlying9 w0) (shut_string Try.underlying9 w1), rfl, hnx.frame _, fun h => by cases h⟩

theorem places_holds : Rows.NamesPlacesSaid :=
  OpenClaim.holds_of_wide 4 Try.f4 rfl rfl rfl rfl rfl rfl rfl ⟨rfl, rfl, rfl, rfl, rfl⟩ rfl rfl rfl rfl rfl (by kernel_rfl) Try.func4 (by kernel_rfl)
    (of_decide_eq_true (by kernel_rfl)) (by unfold Func.isWrapper; rw [if_neg (by decide +kernel)]; exact ⟨rfl, rfl⟩)
    (fun os started H enc _ => places_lifted os started H enc)

set_option maxRecDepth 100000 in
theorem fresh_lifted (os : Os) (started : os.Started) (H : Type) (enc : TypeId × Value → H) :
    ReturnsInHanded {} Try.checked os 6 .any (Rows.namesFreshSpec.pre6 enc Try.prog Try.f6 Rows.namesFreshRow.domain false) (Rows.namesFreshSpec.post enc Try.prog Try.f6 false true false false) := by
  refine returnsInHanded_of_change (C := Try.checked) own started (by kernel_rfl) Try.func6
    (ChangeSpec.witness6 (enc := enc) (C := Try.checked) false ⟨#[], #[.string ⟨#[]⟩, .slice none 0 0], []⟩ 8 (by kernel_rfl) (by kernel_rfl) (by kernel_rfl) (by kernel_rfl)) ?_
  intro W base args ds gs before hval0 hW hcnd _
  have hval : ∀ (j : Nat) t v, Try.f6.params[j]? = some t → args[j]? = some v → Value.okWide Try.prog W .any base t v := hval0
  have hW' := hW
  obtain ⟨p, q, hA0, hV, rfl, hfz, hnd⟩ := hW
  have hA : DataW.TrodAll enc Try.prog W 0 (fun _ => true) true Try.f6.params.toList args.toList ds p := hA0
  rw [Try.params6] at hA hval
  obtain ⟨v0, v1, d0, d1, p0, p1, rfl, rfl, rfl, h0, h1⟩ := trodAll_two hA
  obtain ⟨rfl, rfl⟩ := trodVars_none hV
  obtain ⟨s0, rfl, rfl, rfl, w0⟩ := open_string Try.underlying9 (hval 0 9 v0 rfl rfl) h0
  obtain ⟨l, hl⟩ := strs_rel (hval 1 28 v1 rfl rfl) h1
  clear hA0 hval0
  simp only [List.append_nil, List.nil_append] at hW'
  have hlt : ∀ x ∈ p1, x.block < W.heap.size := fun x hx => by simpa using hW'.lt x hx
  refine (top_call (fresh_law s0.data.toList l) (LRel.cons (.str _ _ rfl) (LRel.cons hl LRel.nil))).mono fun e W' ⟨he, hnx⟩ => ?_
  subst he
  refine ⟨_, rfl, _, _, _, [], p1, [], hW', trodAll_mk1 (shut_bool Try.underlying4 _), ?_, rfl, hnx.frame _, fun h => by cases h⟩
  exact trodAll_mk2 (p := []) (shut_string Try.underlying9 w0) (Below.trod laidOut (by kernel_rfl) (of_decide_eq_true (by kernel_rfl)) h1 hnx hlt)

theorem fresh_holds : Rows.NamesFreshSaid :=
  OpenClaim.holds_of_wide 6 Try.f6 rfl rfl rfl rfl rfl rfl rfl ⟨rfl, rfl, rfl, rfl, rfl⟩ rfl rfl rfl rfl rfl (by kernel_rfl) Try.func6 (by kernel_rfl)
    (of_decide_eq_true (by kernel_rfl)) (by unfold Func.isWrapper; rw [if_neg (by decide +kernel)]; exact ⟨rfl, rfl⟩)
    (fun os started H enc _ => fresh_lifted os started H enc)
end Go.Proofs.Ythmmgcjljfndgaa.Pv
