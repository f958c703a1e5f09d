/- Names: what a sign of a text is where it is a small one; pieces of a text with a point. -/
import Derived.Test.YthmmgcjljfndgaaDoorPwX
import Derived.Test.YthmmgcjljfndgaaDoorFB
import Derived.Lib.TrimU
set_option linter.unusedVariables false
set_option linter.unusedSimpArgs false
namespace Go.Proofs.YthmmgcjljfndgaaDoor.Pv
open Go Go.Proofs

theorem runeW_pos (x : List UInt8) (pos : Nat) : 1 ≤ runeW x pos := Lib.width_pos _ _
theorem decode_low (s : ByteArray) (i : Nat) (h : (Utf8.decode s i).1 < 128) : (Utf8.decode s i).2 = 1 ∧ (Utf8.decode s i).1 = (s.get! i).toNat := by
  unfold Utf8.decode at h ⊢
  simp only [Nat.add_zero] at h ⊢
  split
  · exact ⟨rfl, rfl⟩
  · rename_i h0
    rw [if_neg h0] at h
    split at h
    · split at h
      · simp only [] at h; omega
      · simp [Utf8.runeError] at h
    · split at h
      · split at h
        · rename_i hc
          simp only [] at h
          have : 2048 ≤ _ := (Bool.and_eq_true _ _ ▸ hc : _ ∧ _).1 |> of_decide_eq_true
          omega
        · simp [Utf8.runeError] at h
      · split at h
        · split at h
          · rename_i hc
            simp only [] at h
            have : 65536 ≤ _ := (Bool.and_eq_true _ _ ▸ hc : _ ∧ _).1 |> of_decide_eq_true
            omega
          · simp [Utf8.runeError] at h
        · simp [Utf8.runeError] at h
theorem index_app (c : UInt8) (b : List UInt8) : ∀ a : List UInt8, Lib.indexByte (a ++ c :: b) c = if Lib.indexByte a c < 0 then (a.length : Int) else Lib.indexByte a c
  | [] => by simp [Lib.indexByte]
  | e :: a => by
    have ih := index_app c b a
    have hge := Lib.indexByte_ge a c
    have hge2 := Lib.indexByte_ge (a ++ c :: b) c
    simp only [List.cons_append]
    unfold Lib.indexByte
    by_cases he : (e == c) = true
    · rw [if_pos he, if_pos he, if_neg (by omega)]
    · rw [if_neg he, if_neg he, ih]
      by_cases h : Lib.indexByte a c < 0
      · have hm : Lib.indexByte a c = -1 := by omega
        have h1 : ((a.length : Int) == -1) = false := by simp
        rw [if_pos h, h1, hm]
        simp
      · have h1 : (Lib.indexByte a c == -1) = false := by simp; omega
        rw [if_neg h, h1]
        simp only [Bool.false_eq_true, if_false]
        rw [if_neg (by omega)]
/-- Pieces behind a point. -/
theorem allOk_behind (ok : ByteArray → Bool) (c : UInt8) (b : List UInt8) (n : Nat) : ∀ a : List UInt8, a.length ≤ n → allOk ok c (a ++ c :: b) = (allOk ok c a && allOk ok c b) := by
  induction n with
  | zero =>
    intro a ha
    obtain rfl := List.eq_nil_of_length_eq_zero (by omega : a.length = 0)
    rw [allOk, dif_neg (by simp [Lib.indexByte])]
    have h2 : allOk ok c [] = ok ⟨#[]⟩ := by rw [allOk, dif_pos (by simp [Lib.indexByte])]
    rw [h2]
    simp [Lib.indexByte]
  | succ n ih =>
    intro a ha
    have hi := index_app c b a
    have hlt := index_lt a c
    by_cases h : Lib.indexByte a c < 0
    · rw [if_pos h] at hi
      have h2 : allOk ok c a = ok ⟨a.toArray⟩ := by rw [allOk, dif_pos h]
      rw [allOk, dif_neg (by rw [hi]; omega), hi, h2, Int.toNat_natCast, List.take_left]
      congr 2
      rw [← List.drop_drop, List.drop_left]
      rfl
    · rw [if_neg h] at hi
      have h2 : allOk ok c a = (ok ⟨(a.take (Lib.indexByte a c).toNat).toArray⟩ && allOk ok c (a.drop ((Lib.indexByte a c).toNat + 1))) := by rw [allOk, dif_neg h]
      rw [allOk, dif_neg (by rw [hi]; exact h), hi, h2, List.take_append_of_le_length (by omega), List.drop_append_of_le_length (by omega), ih _ (by rw [List.length_drop]; omega), Bool.and_assoc]
end Go.Proofs.YthmmgcjljfndgaaDoor.Pv
