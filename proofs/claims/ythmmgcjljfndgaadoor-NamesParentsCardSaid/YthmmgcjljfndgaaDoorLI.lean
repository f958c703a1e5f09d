/- What names.Ident answers, as a plain function. -/
import Derived.Test.YthmmgcjljfndgaaDoorLA
import Derived.Test.YthmmgcjljfndgaaDoorI2
set_option linter.unusedVariables false
set_option linter.unusedSimpArgs false
set_option maxRecDepth 20000
namespace Go.Proofs.YthmmgcjljfndgaaDoor.Pv.I
open Go Go.Proofs

def wI (r : Int) : Bool := (decide (97 ≤ r) && decide (r ≤ 122)) || (decide (65 ≤ r) && decide (r ≤ 90)) || (decide (48 ≤ r) && decide (r ≤ 57)) || decide (r = 95)
theorem wordI_ok (r : Int) : names_word r = .ok (wI r) := by
  unfold names_word wI
  by_cases h1 : (97 : Int) ≤ r <;> by_cases h2 : r ≤ 122 <;> by_cases h3 : (65 : Int) ≤ r <;> by_cases h4 : r ≤ 90 <;> by_cases h5 : (48 : Int) ≤ r <;> by_cases h6 : r ≤ 57 <;> simp [h1, h2, h3, h4, h5, h6]
theorem decode_b0 (s : ByteArray) (i : Nat) (h : (s.get! i).toNat < 128) : Utf8.decode s i = ((s.get! i).toNat, 1) := by
  unfold Utf8.decode
  simp only [Nat.add_zero]
  rw [if_pos h]
theorem get_at {x : List UInt8} {pos : Nat} (h : pos < x.length) : (⟨x.toArray⟩ : ByteArray).get! pos = x[pos] := by
  show x.toArray[pos]! = x[pos]
  simp [h]
theorem rune_word {x : List UInt8} {pos : Nat} (h : pos < x.length) : wI (runeAt x pos) = wI (x[pos].toNat : Int) ∧ (wI (runeAt x pos) = true → runeW x pos = 1) := by
  have hg := get_at h
  by_cases hb : x[pos].toNat < 128
  · have hd := decode_b0 ⟨x.toArray⟩ pos (by rw [hg]; exact hb)
    unfold runeAt runeW
    rw [hd, hg]
    exact ⟨rfl, fun _ => rfl⟩
  · have hn : ¬ (Utf8.decode ⟨x.toArray⟩ pos).1 < 128 := fun hl => by
      have := (decode_low _ _ hl).2
      rw [hg] at this
      omega
    have e1 : wI (runeAt x pos) = false := by
      unfold wI runeAt
      simp
      omega
    have e2 : wI (x[pos].toNat : Int) = false := by
      unfold wI
      simp
      omega
    rw [e1, e2]
    exact ⟨rfl, fun h => by cases h⟩
def wB (c : UInt8) : Bool := wI (c.toNat : Int)
theorem ident_loop {x : List UInt8} : ∀ (d k pos : Nat), pos + d = x.length → d < k → names_Ident_l1 x k pos = .ok (if (x.drop pos).all wB = true then .inl x.length else .inr false)
  | 0, k, pos, hp, hk => by
    obtain ⟨k, rfl⟩ : ∃ m, k = m + 1 := ⟨k - 1, by omega⟩
    rw [names_Ident_l1, if_neg (by omega), List.drop_eq_nil_of_le (by omega)]
    simp; omega
  | d + 1, k, pos, hp, hk => by
    obtain ⟨k, rfl⟩ : ∃ m, k = m + 1 := ⟨k - 1, by omega⟩
    have hlt : pos < x.length := by omega
    obtain ⟨h1, h2⟩ := rune_word hlt
    rw [names_Ident_l1, if_pos hlt, wordI_ok, drop_at hlt, List.all_cons]
    simp only [R.bind_ok]
    have e : wB x[pos] = wI (runeAt x pos) := h1.symm
    rw [e]
    by_cases hw : wI (runeAt x pos) = true
    · rw [if_pos hw, h2 hw, hw, Bool.true_and]
      exact ident_loop d k (pos + 1) (by omega) (by omega)
    · rw [if_neg hw]
      have : wI (runeAt x pos) = false := by simpa using hw
      rw [this]
      rfl
/-- Names. -/
def identS (x : List UInt8) : Bool := x.all wB && (!decide (x = []) && decide (x.length ≤ 200) && !(decide (48 ≤ (x.getD 0 0).toNat) && decide ((x.getD 0 0).toNat ≤ 57)))
theorem ident_ok (x : List UInt8) : names_Ident x = .ok (identS x) := by
  unfold names_Ident identS
  rw [ident_loop x.length (x.length + 1) 0 (by omega) (by omega), List.drop_zero]
  by_cases ha : x.all wB = true
  · rw [if_pos ha, ha]
    simp only [R.bind_ok, names_Ident_j0, Bool.true_and]
    by_cases h0 : x = []
    · subst h0; rfl
    · have hp : 0 < x.length := List.length_pos_iff.2 h0
      rw [if_neg h0]
      by_cases h2 : x.length ≤ 200
      · rw [if_pos (by omega), if_pos (by omega)]
        by_cases h3 : (x.getD 0 0).toNat < 48
        · rw [if_pos (by omega)]
          generalize x.getD 0 0 = c0 at h3 ⊢
          simp [h0, h2]
          omega
        · rw [if_neg (by omega), if_pos (by omega)]
          generalize x.getD 0 0 = c0 at h3 ⊢
          simp [h0, h2]
          first | omega | (rw [Bool.eq_iff_iff]; simp; omega)
      · rw [if_neg (by omega)]
        simp [h0, h2]
  · rw [if_neg ha]
    have : x.all wB = false := by simpa using ha
    rw [this]
    rfl
/-- .. of a text as the machine holds it. -/
def identB (p : ByteArray) : Bool := identS p.data.toList
end Go.Proofs.YthmmgcjljfndgaaDoor.Pv.I
