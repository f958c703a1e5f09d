/- names.Full at this program. -/
import Derived.Test.YthmmgcjljfndgaaDoorFC
set_option linter.unusedVariables false
set_option linter.unusedSimpArgs false
namespace Go.Proofs.YthmmgcjljfndgaaDoor.Pv
open Go Go.Proofs Go.RowKit
attribute [local go_sem] Oper.semAt_some

theorem below_put {B : Nat} {w W : World} {l : Nat} {o : Obj} (hl : B ≤ l) (h : Below B w W) : Below B w (W.putObj l o) :=
  ⟨h.os, h.tape, h.output, by simpa [World.putObj] using h.size, fun b hb => (World.putObj_heap_other (by omega)).trans (h.block b hb)⟩
set_option maxHeartbeats 2000000 in
set_option maxRecDepth 100000 in
theorem full_ok (s : ByteArray) (hs : s.size ≤ 900000000) (ok : ByteArray → Bool) (hId : ∀ (p : ByteArray) (W : World), p.size ≤ 900000000 → Calls Tryd.prog 6 #[.string p] W fun e W' => e = .returned (.bool (ok p)) ∧ Below W.heap.size W W') (w : World) :
    Calls Tryd.prog 5 #[.string s] w fun e w' => e = .returned (.bool (allOk ok 46 s.data.toList && decide (s.size ≤ 1000))) ∧ Below w.heap.size w w' := by
  refine (callsIn_wide (n := 3)).1 ?_
  refine callsIn_of_wp_marks Tryd.func5 rfl trivial ?_ rfl
  simp only [Tryd.ntmps5, List.size_toArray, List.length_cons, List.length_nil, Nat.reduceAdd, Nat.reduceSub, Array.replicate_succ, Array.replicate_zero, List.push_toArray, List.append_toArray, List.nil_append, List.cons_append]
  gi_wp2_with (refine ⟨trivial, ?_⟩; gi_at_call 12; refine (callsIn_wide.2 (split_seq s ⟨#[46]⟩ _)).mono ?_; rintro e w' ⟨rfl, rfl⟩)
  obtain ⟨A, hA⟩ : ∃ A, w.alloc (.cells #[.bool false] 4) = A := ⟨_, rfl⟩
  obtain ⟨B, hB⟩ : ∃ B, A.alloc (.cells #[.string s] 9) = B := ⟨_, rfl⟩
  obtain ⟨C, hC⟩ : ∃ C, B.alloc (.cells #[.string ⟨#[46]⟩] 9) = C := ⟨_, rfl⟩
  obtain ⟨W0, hW0⟩ : ∃ W0, C.alloc (.cells #[.int .i64 0] 3) = W0 := ⟨_, rfl⟩
  rw [hA, hB, hC, hW0]
  have zA : A.heap.size = w.heap.size + 1 := by rw [← hA, World.size_alloc]
  have zB : B.heap.size = w.heap.size + 2 := by rw [← hB, World.size_alloc, zA]
  have zC : C.heap.size = w.heap.size + 3 := by rw [← hC, World.size_alloc, zB]
  have hz0 : W0.heap.size = w.heap.size + 4 := by rw [← hW0, World.size_alloc, zC]
  have hB0 : Below w.heap.size w W0 := by
    rw [← hW0, ← hC, ← hB, ← hA]
    exact ((((Below.refl _ w).alloc (Nat.le_refl _) _).alloc (by rw [World.size_alloc]; omega) _).alloc (by rw [World.size_alloc, World.size_alloc]; omega) _).alloc (by rw [World.size_alloc, World.size_alloc, World.size_alloc]; omega) _
  have oC : ∀ b, b < w.heap.size + 3 → W0.heap[b]? = C.heap[b]? := fun b hb => by rw [← hW0]; exact Below.heap_alloc _ _ _ (by omega)
  have oB : ∀ b, b < w.heap.size + 2 → C.heap[b]? = B.heap[b]? := fun b hb => by rw [← hC]; exact Below.heap_alloc _ _ _ (by omega)
  have oA : ∀ b, b < w.heap.size + 1 → B.heap[b]? = A.heap[b]? := fun b hb => by rw [← hB]; exact Below.heap_alloc _ _ _ (by omega)
  have hR0 : W0.heap[w.heap.size]? = some (.cells #[.bool false] 4 (0, 0)) := by
    rw [oC _ (by omega), oB _ (by omega), oA _ (by omega), ← hA]; exact World.alloc_heap_new w _
  have hH0 : Held (w.heap.size + 1) (w.heap.size + 1 + 1) (w.heap.size + 1 + 2) 46 s W0 := by
    refine ⟨?_, ?_, ?_⟩
    · rw [oC _ (by omega), oB _ (by omega), ← hB, ← zA]; exact World.alloc_heap_new A _
    · rw [oC _ (by omega), ← hC, show w.heap.size + 1 + 1 = B.heap.size by omega]; exact World.alloc_heap_new B _
    · rw [← hW0, show w.heap.size + 1 + 2 = C.heap.size by omega]; exact World.alloc_heap_new C _
  refine range_split (ok := ok) rfl hH0 hs (by omega) (by omega)
    (fun W => Below w.heap.size w W ∧ W.heap[w.heap.size]? = some (.cells #[.bool false] 4 (0, 0)))
    (fun W => Below w.heap.size w W ∧ W.heap[w.heap.size]? = some (.cells #[.bool false] 4 (0, 0))) ?put ?xput ?set ?start
    (fun p => { tmps := #[.string s, undef, .pointer (some ⟨w.heap.size, 0, none⟩), .string p, .string s, .func (.func 22) #[] #[.pointer (some ⟨w.heap.size + 1 + 1, 0, none⟩), .pointer (some ⟨w.heap.size + 1, 0, none⟩), .pointer (some ⟨w.heap.size + 1 + 2, 0, none⟩)], .string p, undef, undef, undef, undef, undef, undef], defers := [] }) ?assign ?body ?done ?stop
  case put => exact fun W l o hl h => ⟨below_put (by omega) h.1, (World.putObj_heap_other (by omega)).trans h.2⟩
  case xput => exact fun W l o hl h => ⟨below_put (by omega) h.1, (World.putObj_heap_other (by omega)).trans h.2⟩
  case set => exact fun W y h => ⟨h.1.setCell (p := ⟨w.heap.size + 1, 0, none⟩) (by simp) _, by simp [World.setCell, Array.getElem?_modify, h.2]⟩
  case start => exact fun r => ⟨(hB0.alloc (by omega) _).alloc (by rw [World.size_alloc]; omega) _, (Below.heap_alloc _ _ _ (by rw [World.size_alloc]; omega)).trans ((Below.heap_alloc _ _ _ (by omega)).trans hR0)⟩
  case assign =>
    intro l p W K hK
    gi_wp2
    exact hK
  case body =>
    rintro l p W hp ⟨hB, hR⟩ hsz
    have hc : W.cell? ⟨w.heap.size, 0, none⟩ = some (.bool false) := by simp [World.cell?, hR]
    have hfz : W.frozen? ⟨w.heap.size, 0, none⟩ = false := by simp [World.frozen?, hR]
    have hlt : w.heap.size < W.heap.size := (Array.getElem?_eq_some_iff.1 hR).1
    have low : ∀ W', Below W.heap.size W W' → Below w.heap.size w W' ∧ W'.heap[w.heap.size]? = some (.cells #[.bool false] 4 (0, 0)) := fun W' hB' => ⟨hB.trans (hB'.mono (by omega)), (hB'.block _ hlt).trans hR⟩
    cases hok : ok p
    · gi_wp2
      refine ⟨trivial, rfl, ?_⟩
      refine (CallsIn.inRound l (callsIn_wide.2 (hId p W hp))).mono ?_
      rintro e W' ⟨rfl, hB'⟩
      rw [hok]
      obtain ⟨hB2, hR2⟩ := low W' hB'
      have hl' : ∀ b, b < W.heap.size → W'.heap[b]? = W.heap[b]? := fun b hb => hB'.block b hb
      clear low hB'
      have hc' : W'.cell? ⟨w.heap.size, 0, none⟩ = some (.bool false) := by simp [World.cell?, hR2]
      have hf' : W'.frozen? ⟨w.heap.size, 0, none⟩ = false := by simp [World.frozen?, hR2]
      gi_wp2
      refine ⟨⟨hB2.setCell (p := ⟨w.heap.size, 0, none⟩) (Nat.le_refl _) _, by simp [World.setCell, Array.getElem?_modify, hR2]⟩, fun b hbb hb => ?_⟩
      have hne : ¬ w.heap.size = b := by omega
      rw [← hl' b hb]
      simp [World.setCell, Array.getElem?_modify, hne]
    · gi_wp2_with (refine ⟨trivial, rfl, ?_⟩; refine (CallsIn.inRound l (callsIn_wide.2 (hId p W hp))).mono ?_; rintro e W' ⟨rfl, hB'⟩; rw [hok])
      first
        | exact ⟨low _ hB', fun b _ hb => hB'.block b hb⟩
        | exact fun b _ hb => hB'.block b hb
  case done =>
    rintro D W hD ⟨hB, hR⟩ hK hall
    have hc : W.cell? ⟨w.heap.size, 0, none⟩ = some (.bool false) := by simp [World.cell?, hR]
    have hf : W.frozen? ⟨w.heap.size, 0, none⟩ = false := by simp [World.frozen?, hR]
    gi_wp2
    have hK' : (W.setCell ⟨w.heap.size, 0, none⟩ (.bool (decide ((s.size : Int) ≤ 1000)))).heap[D]? = some (.deferred (some [])) := by
      have hne : ¬ w.heap.size = D := by omega
      simp [World.setCell, Array.getElem?_modify, hne, hK]
    refine ⟨by simp, .inl ⟨_, _, rfl, run_takeDeferred hK', ?_⟩⟩
    have hc5 : ((W.setCell ⟨w.heap.size, 0, none⟩ (.bool (decide ((s.size : Int) ≤ 1000)))).putObj D (.deferred none)).cell? ⟨w.heap.size, 0, none⟩ = some (.bool (decide ((s.size : Int) ≤ 1000))) := by
      have hh : ((W.setCell ⟨w.heap.size, 0, none⟩ (.bool (decide ((s.size : Int) ≤ 1000)))).putObj D (.deferred none)).heap[w.heap.size]? = (W.setCell ⟨w.heap.size, 0, none⟩ (.bool (decide ((s.size : Int) ≤ 1000)))).heap[w.heap.size]? := World.putObj_heap_other (by omega)
      rw [World.cell?_of_block (a := ⟨w.heap.size, 0, none⟩) hh]
      exact World.cell?_setCell_same' W _ _ (by rw [hc]; rfl)
    refine ⟨.bool (decide ((s.size : Int) ≤ 1000)), ?_, by rw [hall, Bool.true_and]; congr 2; simp; omega, below_put (by omega) (hB.setCell (p := ⟨w.heap.size, 0, none⟩) (Nat.le_refl _) _)⟩
    simp [Go.results, Tryd.f5, go_sem, hc5]
  case stop =>
    rintro D W hD ⟨hB, hR⟩ hK hall
    have hc : W.cell? ⟨w.heap.size, 0, none⟩ = some (.bool false) := by simp [World.cell?, hR]
    gi_wp2
    refine ⟨by simp, .inl ⟨_, _, rfl, run_takeDeferred hK, ?_⟩⟩
    have hc5 : (W.putObj D (.deferred none)).cell? ⟨w.heap.size, 0, none⟩ = some (.bool false) := by
      have hh : (W.putObj D (.deferred none)).heap[w.heap.size]? = W.heap[w.heap.size]? := World.putObj_heap_other (by omega)
      rw [World.cell?_of_block (a := ⟨w.heap.size, 0, none⟩) hh]
      exact hc
    refine ⟨.bool false, ?_, by rw [hall]; rfl, below_put (by omega) hB⟩
    simp [Go.results, Tryd.f5, go_sem, hc5]
end Go.Proofs.YthmmgcjljfndgaaDoor.Pv
