/- The library's string builder at this program: Grow. -/
import Derived.Test.YtblbbmlppmpmjaaBld
set_option linter.unusedVariables false
set_option linter.unusedSimpArgs false
namespace Go.Proofs.Ytblbbmlppmpmjaa.Pv
open Go Go.Proofs

set_option maxHeartbeats 2000000 in
set_option maxRecDepth 1000000 in
/-- Grow, where nothing is held. -/
theorem Grow_row (b n cap : Nat) (a : Option Addr) (w w1 : World) (hcc : Calls Try.prog 36 #[.pointer (some ⟨b, 0, none⟩)] w fun e w' => e = .returned (.tuple #[]) ∧ w' = w1) (hbk : w1.heap[b]? = some (.cells #[.pointer (some ⟨b, 0, none⟩), .slice a 0 cap] 49 (0, 0))) (hcm : cap ≤ maxLen) (hn : n ≤ 1000000000000) :
    Calls Try.prog 41 #[.pointer (some ⟨b, 0, none⟩), .int .i64 n] w fun e w' => e = .returned (.tuple #[]) ∧ (w' = w1.drew ∨ ∃ cs : Array Value, cs.size ≤ maxLen ∧ w' = ((w1.setCell ⟨b, 1, none⟩ (.slice (some ⟨w1.heap.size, 0, none⟩) 0 cs.size)).alloc (.cells cs 5)).drew.drew.drew.drew) := by
  have c1 : w1.drew.cell? ⟨b, 1, none⟩ = some (.slice a 0 cap) := by
    have : w1.drew.heap[b]? = _ := hbk
    rw [Lib.cell_of_heap this]; rfl
  have hwr : IntKind.i64.wrap ((cap : Int) - 0) = cap := by
    unfold maxLen at hcm
    rw [IntKind.wrap_i64]
    omega
  have hwr2 : IntKind.i64.wrap (cap : Int) = cap := by
    unfold maxLen at hcm
    rw [IntKind.wrap_i64]
    omega
  have mx := mixed
  go_enter Try.func41, Try.ntmps41
  go_wp2_with (go_at_call 36; refine hcc.mono ?_; rintro e w' ⟨rfl, rfl⟩)
  go_region_o
  by_cases hlt : cap < n
  · go_wp2_with (go_at_call 47; refine (grow_row b n cap a w'.drew hbk (by omega)).mono ?_; rintro e w2 ⟨rfl, cs, hcs, rfl⟩)
    all_goals first
      | (go_end0; exact ⟨rfl, .inr ⟨cs, hcs, rfl⟩⟩)
      | (exfalso; omega)
  · go_wp2_with (exfalso; omega)
    all_goals first
      | (go_end0; exact ⟨rfl, .inl rfl⟩)
      | (exfalso; omega)

end Go.Proofs.Ytblbbmlppmpmjaa.Pv
