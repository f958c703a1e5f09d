/- Proved: glossarylaw23.SourceDocs, whatever the input. No conditions. -/
import Derived.Test.YtpdifmlbhkimlaaGreatDoorQS
import Derived.Test.YtpdifmlbhkimlaaGreatDoorLA
import Derived.Test.YtpdifmlbhkimlaaGreatDoorCards
import Derived.Test.YtpdifmlbhkimlaaGreatDoorTie
import Derived.SevenTiedAt
set_option linter.unusedVariables false
set_option linter.unusedSimpArgs false
namespace Go.Proofs.YtpdifmlbhkimlaaGreatDoor.Pv
open Go Go.Proofs Go.ChangeShapes Go.WideShapes Go.ChangeAt Go.RowKit Go.ChangeMaps

set_option maxRecDepth 100000 in
theorem sourceDocs_lifted (os : Os) (started : os.Started) (H : Type) (enc : TypeId × Value → H) :
    ReturnsInHanded {} Tryz.checked os 3 .any (fun w args => (Rows.sourceDocsSpec.pre enc Tryz.prog Tryz.f3 Rows.sourceDocsRow.domain false w args ∧ laidMetH Tryz.prog Rows.sourceDocsRow.laid w) ∧ sizedMet enc Tryz.prog Tryz.f3 (OpenSpec.ofChange Rows.sourceDocsSpec) false w args)
      (Rows.sourceDocsSpec.post enc Tryz.prog Tryz.f3 false true false false) := by
  refine returnsInHanded_of_change_and (C := Tryz.checked) (X := fun w _ => laidMetH Tryz.prog Rows.sourceDocsRow.laid w) (fun _ _ _ hh h => h.of_heap hh) own started (by kernel_rfl) Tryz.func3
    (ChangeSpec.witness_shaped (enc := enc) (C := Tryz.checked) (os := os) (X := fun w _ => laidMetH Tryz.prog Rows.sourceDocsRow.laid w) false (World.laidAll Tryz.prog os Rows.sourceDocsRow.laid) #[.slice none 0 0, .slice none 0 0] 8 (World.laidAll_os _ _ _)
      (World.shaped_of_ZipB (by kernel_rfl) (by kernel_rfl)) (by kernel_rfl) (by kernel_rfl) (by kernel_rfl)
      (by rw [MakeChecks.laidMetH_plain _ _ _ (by kernel_rfl)]; exact laidMet_laidAll _ (by kernel_rfl) (by kernel_rfl))) ?_
  intro W base args ds gs before hval0 hW hc _ hL _
  have hval : ∀ (j : Nat) t v, Tryz.f3.params[j]? = some t → args[j]? = some v → Value.okWide Tryz.prog W .any base t v := hval0
  have hW' := hW
  obtain ⟨p, q, hA0, hV, rfl, hfz, hnd⟩ := hW
  have hA : DataW.TrodAll enc Tryz.prog W 0 (fun _ => true) true Tryz.f3.params.toList args.toList ds p := hA0
  rw [Tryz.params3] at hA hval
  obtain ⟨v0, v1, d0, d1, p0, p1, rfl, rfl, rfl, h0, h1⟩ := trodAll_two hA
  obtain ⟨rfl, rfl⟩ := trodVars_none hV
  obtain ⟨a0, r0, o0⟩ := open_arg (f := (fun x => V.sl 4 (List.map S_api_Location.enc x))) (ok := (fun x => (List.length x ≤ maxLen ∧ ∀ a ∈ x, S_api_Location.Ok a))) (fun m => (openAt_slice (sz := 4) (e := 34) (f := S_api_Location.enc) (ok := S_api_Location.Ok) Tryz.underlying22 (by kernel_rfl) (by decide) (fun a => rfl) (fun m hm => (S_api_Location.opens _)))) h0
  obtain ⟨q0, len0, cap0, rfl⟩ := okWide_slice Tryz.underlying22 (hval 0 22 v0 rfl rfl)
  obtain ⟨a1, r1, o1⟩ := open_arg (f := (fun x => V.sl 1 (List.map (V.int .i64) x))) (ok := (fun x => (List.length x ≤ maxLen ∧ ∀ a ∈ x, okInt .i64 a))) (fun m => (openAt_slice (sz := 1) (e := 3) (f := (V.int .i64)) (ok := (okInt .i64)) Tryz.underlying23 (by kernel_rfl) (by decide) (fun a => rfl) (fun m hm => (openAt_int Tryz.underlying3)))) h1
  obtain ⟨q1, len1, cap1, rfl⟩ := okWide_slice Tryz.underlying23 (hval 1 23 v1 rfl rfl)
  clear hA0 hval0
  simp only [List.append_nil, List.nil_append] at hW'
  have hlt0 : ∀ x ∈ p0, x.block < W.heap.size := fun x hx => hW'.lt x (by simp [hx])
  have hlt1 : ∀ x ∈ p1, x.block < W.heap.size := fun x hx => hW'.lt x (by simp [hx])
  refine (top_call (sourceDocs_law a0 o0 a1 o1) (LRel.cons (rel_one r0 rfl rfl) (LRel.cons (rel_one r1 rfl rfl) LRel.nil))).mono fun e W' ⟨he, hnx⟩ => ?_
  subst he
  refine ⟨_, rfl, _, _, _, [], p0 ++ p1, [], hW', trodAll_mk1 (shut_bool Tryz.underlying4 _), ?_, rfl, hnx.frame _, fun h => by cases h⟩
  have := trodAll_mk2 (enc := enc) (P := Tryz.prog) (w := W') (base := 0) (spare := fun b => decide (b < W.heap.size)) (held := true) (p := p0) (p' := p1) (Below.trod laidOut (by kernel_rfl) (of_decide_eq_true (by kernel_rfl)) h0 hnx hlt0) (Below.trod laidOut (by kernel_rfl) (of_decide_eq_true (by kernel_rfl)) h1 hnx hlt1)
  try simp only [List.append_nil, List.nil_append] at this
  exact this

theorem sourceDocs_row : Rows.SourceDocsSaid :=
  OpenClaim.holds_of_wide 3 Tryz.f3 rfl rfl rfl rfl rfl rfl rfl ⟨rfl, rfl, rfl, rfl, rfl⟩ rfl rfl rfl rfl rfl (by kernel_rfl) Tryz.func3 (by kernel_rfl)
    (of_decide_eq_true (by kernel_rfl)) (by unfold Func.isWrapper; first | (rw [if_pos (by decide +kernel)]; kernel_rfl) | (rw [if_neg (by decide +kernel)]; exact ⟨rfl, rfl⟩))
    (fun os started H enc _ => sourceDocs_lifted os started H enc)
theorem sourceDocs_holds : Rows.SourceDocsCardSaid :=
  Claim7.holds_tied_plain_at .later [] [.data, .pinned] true (true, "1be83597600165c895a31e5ac51405cd0401afb7eb0e0cdb34364e870eb16467") false sourceDocs_row (fun _ h => by cases h) (by kernel_rfl) (fun _ h => by cases h) sourceDocs_row_tie rfl ⟨rfl, rfl⟩ (by kernel_rfl) rfl
    (fun f fn hf hfn => by
      obtain rfl : f = 3 := Option.some.inj ((show Tryz.prog.funcNamed "glossary/glossarylaw23.SourceDocs" = some 3 by kernel_rfl).symm.trans hf) |>.symm
      obtain rfl : fn = Tryz.f3 := (Option.some.inj (Tryz.func3.symm.trans hfn)).symm
      exact ⟨by kernel_rfl, fun j t ht => by
        rw [Tryz.params3] at ht
        have hm : t ∈ [22, 23] := by simpa using Array.mem_of_getElem? ht
        have hall : ([22, 23].all fun u => !Tryz.prog.wantsStandIn u) = true := by kernel_rfl
        exact (show Tryz.prog.wantsStandIn t = false by simpa using List.all_eq_true.1 hall t hm)⟩)
    (by kernel_rfl)
end Go.Proofs.YtpdifmlbhkimlaaGreatDoor.Pv
