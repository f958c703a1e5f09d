/- The law as a plain law: both searches for a place are one. -/
import Derived.Test.YtpdifmlbhkimlaaGreatDoorG2
set_option linter.unusedVariables false
set_option linter.unusedSimpArgs false
namespace Go.Proofs.YtpdifmlbhkimlaaGreatDoor.Pv
open Go Go.Proofs

theorem eq_loop (a b : List Int) : ∀ k i, slices_Equal_int_l1 a b k i = glossaryref13_SamePath_l1 a b k i
  | 0, i => rfl
  | k + 1, i => by unfold slices_Equal_int_l1 glossaryref13_SamePath_l1; rw [eq_loop a b k]
theorem eq_same (a b : List Int) : slices_Equal_int a b = glossaryref13_SamePath a b := by
  unfold slices_Equal_int glossaryref13_SamePath
  rw [eq_loop]
  rfl
theorem docs_loop (a : List S_api_Location) (b : List Int) : ∀ k i, source_Docs_l1 a b k i = glossaryref23_Docs_l1 a b k i
  | 0, i => rfl
  | k + 1, i => by unfold source_Docs_l1 glossaryref23_Docs_l1; rw [docs_loop a b k, eq_same]
theorem docs_same (a : List S_api_Location) (b : List Int) : source_Docs a b = glossaryref23_Docs a b := by
  unfold source_Docs glossaryref23_Docs
  rw [docs_loop]
  rfl
theorem w64 {i : Int} (h0 : 0 ≤ i) (h1 : i ≤ 1000) : IntKind.wrap .i64 (i + 1) = i + 1 := wrap64 (by omega)
theorem eq_runs (a b : List Int) (hl : a.length = b.length) (hb : b.length ≤ 100) : ∀ (k : Nat) (i : Int), 0 ≤ i → i ≤ a.length → (a.length : Int) < i + k → ∃ r, slices_Equal_int_l1 a b k i = .ok r
  | 0, i, _, h1, h2 => by omega
  | k + 1, i, h0, h1, h2 => by
    unfold slices_Equal_int_l1
    by_cases hi : i < (a.length : Int)
    · rw [if_pos hi, if_pos ⟨h0, hi⟩, if_pos ⟨h0, by omega⟩]
      split
      · rw [w64 h0 (by omega)]
        exact eq_runs a b hl hb k (i + 1) (by omega) (by omega) (by omega)
      · exact ⟨_, rfl⟩
    · rw [if_neg hi]
      exact ⟨_, rfl⟩
theorem eq_ok (a b : List Int) (hb : b.length ≤ 100) : ∃ r, slices_Equal_int a b = .ok r := by
  unfold slices_Equal_int
  by_cases hl : (a.length : Int) = b.length
  · rw [if_pos hl]
    obtain ⟨r, hr⟩ := eq_runs a b (by omega) hb Many 0 (by omega) (by omega) (by unfold Many; omega)
    rw [hr]
    cases r with
    | inl u => exact ⟨_, rfl⟩
    | inr x => exact ⟨_, rfl⟩
  · rw [if_neg hl]
    exact ⟨_, rfl⟩
theorem docs_runs (a : List S_api_Location) (b : List Int) (ha : a.length ≤ 100) (hb : b.length ≤ 100) : ∀ (k : Nat) (i : Int), 0 ≤ i → i ≤ a.length → (a.length : Int) < i + k → ∃ r, source_Docs_l1 a b k i = .ok r
  | 0, i, _, h1, h2 => by omega
  | k + 1, i, h0, h1, h2 => by
    unfold source_Docs_l1
    by_cases hi : i < (a.length : Int)
    · rw [if_pos hi, if_pos ⟨h0, hi⟩]
      obtain ⟨r, hr⟩ := eq_ok (gt a i).Path b hb
      rw [hr]
      simp only [R.bind_ok]
      split
      · exact ⟨_, rfl⟩
      · rw [w64 h0 (by omega)]
        exact docs_runs a b ha hb k (i + 1) (by omega) (by omega) (by omega)
    · rw [if_neg hi]
      exact ⟨_, rfl⟩
theorem docs_ok (a : List S_api_Location) (b : List Int) (ha : a.length ≤ 100) (hb : b.length ≤ 100) : ∃ r, source_Docs a b = .ok r := by
  unfold source_Docs
  obtain ⟨r, hr⟩ := docs_runs a b ha hb Many 0 (by omega) (by omega) (by unfold Many; omega)
  rw [hr]
  cases r with
  | inl u => exact ⟨_, rfl⟩
  | inr x => exact ⟨_, rfl⟩
theorem docs_law (a : List S_api_Location) (b : List Int) : glossarylaw23_SourceDocs a b = .ok true := by
  unfold glossarylaw23_SourceDocs awakeX
  simp only [R.bind_ok, if_true]
  by_cases ha : (100 : Int) < a.length
  · rw [if_pos ha]; rfl
  rw [if_neg ha]
  by_cases hb : (100 : Int) < b.length
  · rw [if_pos hb]; rfl
  rw [if_neg hb, ← docs_same]
  obtain ⟨r, hr⟩ := docs_ok a b (by omega) (by omega)
  rw [hr]
  simp only [R.bind_ok, decide_true]
theorem sourceDocs_law {P Q : Prop} (x0 : List S_api_Location) (_ : P) (x1 : List Int) (_ : Q) : CA qprim 3 [.sl 4 (List.map S_api_Location.enc x0), .sl 1 (List.map (V.int .i64) x1)] [] fun r _ => r = .ret (.bool true) :=
  glossarylaw23_SourceDocs_call (KK := fun r => r = true) (X := fun _ => False) (by rw [docs_law]; exact rfl) (fun r h => by rw [h]) (fun v h => h.elim)
end Go.Proofs.YtpdifmlbhkimlaaGreatDoor.Pv
