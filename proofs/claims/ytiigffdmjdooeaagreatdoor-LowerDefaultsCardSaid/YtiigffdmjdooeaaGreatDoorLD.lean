/- Numbers with a sign: both read the same. -/
import Derived.Test.YtiigffdmjdooeaaGreatDoorLF
set_option linter.unusedVariables false
set_option linter.unusedSimpArgs false
set_option maxRecDepth 20000
namespace Go.Proofs.YtiigffdmjdooeaaGreatDoor.Pv
open Go Go.Proofs

theorem num_range {b : Int} (hb : b = 8 ∨ b = 10 ∨ b = 16) : ∀ (s : List UInt8) (n m : Int), 0 ≤ n ∧ n ≤ 18446744073709551615 → num b s n = some m → 0 ≤ m ∧ m ≤ 18446744073709551615
  | [], n, m, hn, h => by simp only [num, Option.some.injEq] at h; omega
  | c :: r, n, m, hn, h => by
    have hw := (wd_all c).2.2
    rw [num] at h
    split at h
    · cases h
    · rename_i hc
      refine num_range hb r _ m ?_ h
      rcases hb with rfl | rfl | rfl <;> omega
theorem number_range (s : List UInt8) : 0 ≤ (number s).1 ∧ (number s).1 ≤ 18446744073709551615 := by
  have key : ∀ (b : Int) (t : List UInt8), (b = 8 ∨ b = 10 ∨ b = 16) → 0 ≤ (nres b t).1 ∧ (nres b t).1 ≤ 18446744073709551615 := by
    intro b t hb
    unfold nres
    cases h : num b t 0 with
    | none => simp
    | some m => exact num_range hb t 0 m (by omega) h
  unfold number
  split
  · exact key _ _ (.inr (.inr rfl))
  · split
    · exact key _ _ (.inl rfl)
    · exact key _ _ (.inr (.inl rfl))
theorem digits_both {n : Int} (h : 0 ≤ n ∧ n ≤ 18446744073709551615) : ∃ l, quote_Digits n = .ok l ∧ glossaryref01_Digits n = .ok l := by
  obtain ⟨x, rfl⟩ : ∃ x : Nat, n = (x : Int) := ⟨n.toNat, by omega⟩
  exact ⟨_, digits_ok (by omega), rdigits_ok (by omega)⟩
/-- What both say of digits, and whether there is a sign. -/
def judge (d : List UInt8) (minus : Bool) (l : List UInt8) : Int × Bool × Bool :=
  if (number d).2 = true ∧ l = d ∧ ¬ (minus = true ∧ ((number d).1 = 0 ∨ (9223372036854775808 : Int) < (number d).1)) then ((number d).1, minus, true) else (0, false, false)
theorem int_ok {s d : List UInt8} {minus : Bool} {l : List UInt8} (hp : strings_CutPrefix s [45] = .ok (d, minus)) (hl : d.length ≤ 3000) (hd : quote_Digits (number d).1 = .ok l) : node_Int s = .ok (judge d minus l) := by
  unfold node_Int judge
  rw [hp]
  simp only [R.bind_ok]
  rw [number_ok hl]
  simp only [R.bind_ok]
  cases h1 : (number d).2
  · simp [h1]
  · simp only [if_true, hd, R.bind_ok, true_and]
    by_cases h2 : l = d
    · simp only [if_pos h2]
      cases minus
      · simp [h2]
      · by_cases h3 : (number d).1 = 0
        · simp [h3, h2]
        · by_cases h4 : (9223372036854775808 : Int) < (number d).1
          · simp [h3, h2, h4]
          · simp [h3, h2, h4]
    · simp [h2]
theorem rint_ok {d : List UInt8} {minus : Bool} {l : List UInt8} (hl : d.length ≤ 3000) (hd : glossaryref01_Digits (number d).1 = .ok l) : glossaryref07_Int_j0 d minus = .ok (judge d minus l) := by
  unfold glossaryref07_Int_j0 judge
  rw [rnumber_ok hl]
  simp only [R.bind_ok]
  cases h1 : (number d).2
  · simp [h1]
  · simp only [if_true, hd, R.bind_ok, true_and]
    by_cases h2 : l = d
    · simp only [if_pos h2]
      cases minus
      · simp [h2]
      · by_cases h3 : (number d).1 = 0
        · simp [h3, h2]
        · by_cases h4 : (9223372036854775808 : Int) < (number d).1
          · simp [h3, h2, h4]
          · simp [h3, h2, h4]
    · simp [h2]
theorem cut_minus (r : List UInt8) : strings_CutPrefix (45 :: r) [45] = .ok (r, true) := by
  unfold strings_CutPrefix stringslite_CutPrefix stringslite_HasPrefix
  have e : (List.length ([45] : List UInt8) : Int) = 1 := rfl
  rw [e]
  have h1 : (1 : Int) ≤ (List.length ((45 : UInt8) :: r) : Int) := by simp only [List.length_cons]; omega
  rw [if_pos h1, if_pos ⟨by omega, h1⟩]
  simp only [R.bind_ok]
  rw [if_pos (by simp), if_pos ⟨by omega, h1⟩]
  rfl
theorem cut_none {c : UInt8} (r : List UInt8) (hc : c ≠ 45) : strings_CutPrefix (c :: r) [45] = .ok (c :: r, false) := by
  unfold strings_CutPrefix stringslite_CutPrefix stringslite_HasPrefix
  have e : (List.length ([45] : List UInt8) : Int) = 1 := rfl
  rw [e]
  have h1 : (1 : Int) ≤ (List.length (c :: r) : Int) := by simp only [List.length_cons]; omega
  rw [if_pos h1, if_pos ⟨by omega, h1⟩]
  simp only [R.bind_ok]
  rw [if_neg (by simp [hc])]
  rfl
theorem is45 {c : UInt8} : ((c.toNat : Int) = 45) ↔ c = 45 := by
  constructor
  · intro h
    apply UInt8.toNat_inj.1
    show c.toNat = 45
    omega
  · rintro rfl; rfl
theorem ints_both (s : List UInt8) (hl : s.length ≤ 2000) : ∃ r, node_Int s = .ok r ∧ glossaryref07_Int s = .ok r := by
  cases s with
  | nil =>
    obtain ⟨l, h1, h2⟩ := digits_both (number_range [])
    refine ⟨_, int_ok (d := []) (minus := false) (by rfl) (by simp) h1, ?_⟩
    unfold glossaryref07_Int
    simp only [if_true, R.bind_ok, Bool.false_eq_true, if_false]
    exact rint_ok (by simp) h2
  | cons c r =>
    have h1 : (1 : Int) ≤ (List.length (c :: r) : Int) := by simp only [List.length_cons]; omega
    by_cases hc : c = 45
    · subst hc
      obtain ⟨l, h2, h3⟩ := digits_both (number_range r)
      refine ⟨_, int_ok (cut_minus r) (by simp at hl; omega) h2, ?_⟩
      unfold glossaryref07_Int
      rw [if_neg (by simp), if_pos ⟨by omega, by omega⟩]
      simp only [R.bind_ok]
      rw [if_pos (by simp), if_pos ⟨by omega, h1⟩]
      exact rint_ok (d := r) (by simp at hl; omega) h3
    · obtain ⟨l, h2, h3⟩ := digits_both (number_range (c :: r))
      refine ⟨_, int_ok (cut_none r hc) (by omega) h2, ?_⟩
      unfold glossaryref07_Int
      rw [if_neg (by simp), if_pos ⟨by omega, by omega⟩]
      simp only [R.bind_ok]
      rw [if_neg (by simp only [List.getD_cons_zero, is45, hc, decide_false]; simp)]
      exact rint_ok (by omega) h3
end Go.Proofs.YtiigffdmjdooeaaGreatDoor.Pv
