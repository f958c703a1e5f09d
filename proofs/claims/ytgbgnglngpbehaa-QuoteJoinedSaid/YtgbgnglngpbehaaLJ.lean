/- The law of joined texts, as a plain function. -/
import Derived.Test.YtgbgnglngpbehaaG16
import Derived.Test.YtgbgnglngpbehaaLB
set_option linter.unusedVariables false
set_option linter.unusedSimpArgs false
set_option maxRecDepth 20000
namespace Go.Proofs.Ytgbgnglngpbehaa.Pv
open Go Go.Proofs

theorem qt_front (b : List UInt8) : List.take ((qt b).length - 1) (qt b) = 34 :: b.flatMap qe := by
  have : (qt b).length - 1 = (34 :: b.flatMap qe).length := by simp [qt]
  rw [this, qt, ← List.cons_append, List.take_left]
theorem qt_join (b c : List UInt8) : qt (b ++ c) = List.take ((qt b).length - 1) (qt b) ++ List.drop 1 (qt c) := by
  rw [qt_front]
  simp [qt]
theorem joined_ok (b c : List UInt8) : glossarylaw04_QuoteJoined b c = .ok true := by
  unfold glossarylaw04_QuoteJoined
  rw [awake_ok, R.bind_ok, if_pos rfl]
  by_cases h : (300 : Int) < (b.length : Int)
  · rw [if_pos h, R.bind_ok, if_pos rfl]
  · rw [if_neg h, R.bind_ok]
    by_cases h' : (300 : Int) < (c.length : Int)
    · rw [if_pos (decide_eq_true h')]
    · have hb := qt_len b
      have hc := qt_len c
      have l1 : (qt b).length = (b.flatMap qe).length + 2 := by simp only [qt, List.length_cons, List.length_append, List.length_nil]
      have l2 : (qt c).length = (c.flatMap qe).length + 2 := by simp only [qt, List.length_cons, List.length_append, List.length_nil]
      have e : IntKind.wrap .i64 (((qt b).length : Int) - 1) = (((qt b).length - 1 : Nat) : Int) := by rw [wrap64 (by omega)]; omega
      rw [if_neg (by simp only [decide_eq_true_eq]; exact h'), text_ok (by omega), R.bind_ok, text_ok (by omega), R.bind_ok, if_pos (by omega), if_pos (by omega), if_pos (by omega), if_pos (by omega),
        text_ok (by simp only [List.length_append]; omega), R.sure_ok, R.bind_ok, e, if_pos (by omega), if_pos (by omega), Int.toNat_natCast, if_pos (by simp only [List.length_take, List.length_drop]; omega), R.bind_ok, qt_join]
      simp
theorem joined_law (b c : List UInt8) : CA qprim 8 [.sl 1 (b.map byteV), .sl 1 (c.map byteV)] [] fun r _ => r = .ret (.bool true) :=
  glossarylaw04_QuoteJoined_call (KK := fun r => r = true) (X := fun _ => False) (by rw [joined_ok]; exact rfl) (fun r hr => by rw [hr]) (fun v hv => hv.elim)
end Go.Proofs.Ytgbgnglngpbehaa.Pv
