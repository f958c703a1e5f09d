/- Numbers that a text writes, as plain functions: both read the same. -/
import Derived.Test.YtiigffdmjdooeaaGreatDoorLA
set_option linter.unusedVariables false
set_option linter.unusedSimpArgs false
set_option maxRecDepth 20000
namespace Go.Proofs.YtiigffdmjdooeaaGreatDoor.Pv
open Go Go.Proofs

/-- A digit's worth; 16: it is none. -/
def wd (c : UInt8) : Int :=
  if 48 ≤ c.toNat ∧ c.toNat ≤ 57 then (c.toNat : Int) - 48 else if 97 ≤ c.toNat ∧ c.toNat ≤ 102 then (c.toNat : Int) - 87 else if 65 ≤ c.toNat ∧ c.toNat ≤ 70 then (c.toNat : Int) - 55 else 16
theorem wd_tab : ∀ i : Fin 256, (quote_worth (UInt8.ofNat i.val)).got = some (wd (UInt8.ofNat i.val)) ∧ (glossaryref01_digit (UInt8.ofNat i.val)).got = some (if wd (UInt8.ofNat i.val) = 16 then 99 else wd (UInt8.ofNat i.val)) ∧ 0 ≤ wd (UInt8.ofNat i.val) ∧ wd (UInt8.ofNat i.val) ≤ 16 := by decide +kernel
theorem wd_all (c : UInt8) : (quote_worth c).got = some (wd c) ∧ (glossaryref01_digit c).got = some (if wd c = 16 then 99 else wd c) ∧ 0 ≤ wd c ∧ wd c ≤ 16 := bytes_all (p := fun c => (quote_worth c).got = some (wd c) ∧ (glossaryref01_digit c).got = some (if wd c = 16 then 99 else wd c) ∧ 0 ≤ wd c ∧ wd c ≤ 16) wd_tab c
theorem worth_ok (c : UInt8) : quote_worth c = .ok (wd c) := R.of_got (wd_all c).1
theorem digit_ok (c : UInt8) : glossaryref01_digit c = .ok (if wd c = 16 then 99 else wd c) := R.of_got (wd_all c).2.1
/-- A number out of digits; none: it is none, or too great. -/
def num (b : Int) : List UInt8 → Int → Option Int
  | [], n => some n
  | c :: r, n => if b ≤ wd c ∨ (18446744073709551615 - wd c) / b < n then none else num b r (n * b + wd c)
def sides (o : Option Int) : R (Int ⊕ (Int × Bool)) :=
  match o with
  | none => .ok (.inr (0, false))
  | some m => .ok (.inl m)
theorem tq {a b : Int} (h : 0 ≤ a) : a.tdiv b = a / b := Int.tdiv_eq_ediv_of_nonneg h

theorem num_loop {s : List UInt8} {b : Int} (hb : b = 8 ∨ b = 10 ∨ b = 16) (hl : s.length ≤ 3000) : ∀ (d k i : Nat) (n : Int), i + d = s.length → d < k → 0 ≤ n → n ≤ 18446744073709551615 → quote_Number_l1 s b k n (i : Int) = sides (num b (s.drop i) n)
  | 0, k, i, n, hi, hk, h0, h1 => by
    obtain ⟨k, rfl⟩ : ∃ m, k = m + 1 := ⟨k - 1, by omega⟩
    rw [quote_Number_l1, if_neg (by omega), List.drop_eq_nil_of_le (by omega)]
    rfl
  | d + 1, k, i, n, hi, hk, h0, h1 => by
    obtain ⟨k, rfl⟩ : ∃ m, k = m + 1 := ⟨k - 1, by omega⟩
    have hlt : i < s.length := by omega
    have hd := drop_at hlt
    obtain ⟨_, _, w0, w1⟩ := wd_all s[i]
    rw [quote_Number_l1, if_pos (by omega), if_pos (by omega), gt_at hlt, worth_ok, R.bind_ok, hd, num]
    generalize wd s[i] = w at *
    have e1 : IntKind.wrap .u64 w = w := wrapu64 (by omega)
    have e2 : IntKind.wrap .u64 (18446744073709551615 - w) = 18446744073709551615 - w := wrapu64 (by omega)
    have e3 : IntKind.wrap .u64 ((18446744073709551615 - w) / b) = (18446744073709551615 - w) / b := by
      rcases hb with rfl | rfl | rfl <;> exact wrapu64 (by omega)
    rw [e1, e2, tq (by omega), e3, next64 (by omega)]
    have hbn : ¬ b = 0 := by rcases hb with rfl | rfl | rfl <;> decide
    by_cases c1 : b ≤ w
    · rw [if_pos c1, R.bind_ok, if_pos rfl, if_pos (.inl c1)]; rfl
    · rw [if_neg c1, if_pos hbn, R.bind_ok]
      by_cases c2 : (18446744073709551615 - w) / b < n
      · rw [if_pos (by simp [c2]), if_pos (.inr c2)]; rfl
      · have hn : 0 ≤ n * b ∧ n * b + w ≤ 18446744073709551615 := by rcases hb with rfl | rfl | rfl <;> omega
        rw [if_neg (by simp [c2]), if_neg (fun h => h.elim c1 c2), wrapu64 (n := n * b) (by omega), wrapu64 (by omega)]
        exact num_loop hb hl d k (i + 1) _ (by omega) (by omega) (by omega) (by omega)
theorem rnum_loop {s : List UInt8} {b : Int} (hb : b = 8 ∨ b = 10 ∨ b = 16) (hl : s.length ≤ 3000) : ∀ (d k i : Nat) (n : Int), i + d = s.length → d < k → 0 ≤ n → n ≤ 18446744073709551615 → glossaryref01_Number_l1 b s k n (i : Int) = sides (num b (s.drop i) n)
  | 0, k, i, n, hi, hk, h0, h1 => by
    obtain ⟨k, rfl⟩ : ∃ m, k = m + 1 := ⟨k - 1, by omega⟩
    rw [glossaryref01_Number_l1, if_neg (by omega), List.drop_eq_nil_of_le (by omega)]
    rfl
  | d + 1, k, i, n, hi, hk, h0, h1 => by
    obtain ⟨k, rfl⟩ : ∃ m, k = m + 1 := ⟨k - 1, by omega⟩
    have hlt : i < s.length := by omega
    have hd := drop_at hlt
    have hg : List.getD s (Int.toNat (i : Int)) 0 = s[i] := getD_at hlt
    obtain ⟨_, _, w0, w1⟩ := wd_all s[i]
    rw [glossaryref01_Number_l1, if_pos (by omega), if_pos (by omega), hg, digit_ok, R.bind_ok, hd, num]
    generalize wd s[i] = w at *
    have hbn : ¬ b = 0 := by rcases hb with rfl | rfl | rfl <;> decide
    have e1 : IntKind.wrap .u64 (if w = 16 then 99 else w) = if w = 16 then 99 else w := by split <;> exact wrapu64 (by omega)
    rw [e1, next64 (by omega)]
    by_cases c1 : b ≤ w
    · rw [if_pos (by split <;> omega), R.bind_ok, if_pos rfl, if_pos (.inl c1)]; rfl
    · have hw : ¬ w = 16 := by omega
      simp only [hw, if_false]
      have e2 : IntKind.wrap .u64 (18446744073709551615 - w) = 18446744073709551615 - w := wrapu64 (by omega)
      have e3 : IntKind.wrap .u64 ((18446744073709551615 - w) / b) = (18446744073709551615 - w) / b := by
        rcases hb with rfl | rfl | rfl <;> exact wrapu64 (by omega)
      rw [if_neg c1, if_pos hbn, R.bind_ok, e2, tq (by omega), e3]
      by_cases c2 : (18446744073709551615 - w) / b < n
      · rw [if_pos (by simp [c2]), if_pos (.inr c2)]; rfl
      · have hn : 0 ≤ n * b ∧ n * b + w ≤ 18446744073709551615 := by rcases hb with rfl | rfl | rfl <;> omega
        rw [if_neg (by simp [c2]), if_neg (fun h => h.elim c1 c2), wrapu64 (n := n * b) (by omega), wrapu64 (by omega)]
        exact rnum_loop hb hl d k (i + 1) _ (by omega) (by omega) (by omega) (by omega)
def nres (b : Int) (s : List UInt8) : Int × Bool := match num b s 0 with | none => (0, false) | some m => (m, !decide (s = []))
theorem num_j2 {s : List UInt8} {b : Int} (hb : b = 8 ∨ b = 10 ∨ b = 16) (hl : s.length ≤ 3000) : quote_Number_j2 s b = .ok (nres b s) := by
  have := num_loop hb hl s.length Many 0 0 (by omega) (many_gt (by omega)) (by omega) (by omega)
  simp only [Int.cast_ofNat_Int, Int.natCast_zero, List.drop_zero] at this
  rw [quote_Number_j2, this]
  unfold nres
  cases num b s 0 <;> rfl
theorem rnum_j2 {s : List UInt8} {b : Int} (hb : b = 8 ∨ b = 10 ∨ b = 16) (hl : s.length ≤ 3000) : glossaryref01_Number_j2 b s = .ok (nres b s) := by
  have := rnum_loop hb hl s.length Many 0 0 (by omega) (many_gt (by omega)) (by omega) (by omega)
  simp only [Int.cast_ofNat_Int, Int.natCast_zero, List.drop_zero] at this
  rw [glossaryref01_Number_j2, this]
  unfold nres
  cases num b s 0 <;> rfl
theorem or_tab : ∀ i : Fin 256, (((u8 (bitsV .or .u8 ((UInt8.ofNat i.val).toNat : Int) 32)).toNat : Int) = 120) = (((UInt8.ofNat i.val).toNat : Int) = 120 ∨ ((UInt8.ofNat i.val).toNat : Int) = 88) := by
  have h : ∀ i : Fin 256, (((u8 (bitsV .or .u8 ((UInt8.ofNat i.val).toNat : Int) 32)).toNat : Int) = 120) ↔ (((UInt8.ofNat i.val).toNat : Int) = 120 ∨ ((UInt8.ofNat i.val).toNat : Int) = 88) := by decide +kernel
  exact fun i => propext (h i)
theorem or_all (c : UInt8) : (((u8 (bitsV .or .u8 (c.toNat : Int) 32)).toNat : Int) = 120) = ((c.toNat : Int) = 120 ∨ (c.toNat : Int) = 88) := bytes_all (p := fun c => (((u8 (bitsV .or .u8 (c.toNat : Int) 32)).toNat : Int) = 120) = ((c.toNat : Int) = 120 ∨ (c.toNat : Int) = 88)) or_tab c
/-- The number that a text writes. -/
def number (s : List UInt8) : Int × Bool :=
  if 2 < s.length ∧ ((List.getD s 0 0).toNat : Int) = 48 ∧ (((List.getD s 1 0).toNat : Int) = 120 ∨ ((List.getD s 1 0).toNat : Int) = 88) then nres 16 (s.drop 2)
  else if 1 < s.length ∧ ((List.getD s 0 0).toNat : Int) = 48 then nres 8 (s.drop 1) else nres 10 s
theorem number_ok {s : List UInt8} (hl : s.length ≤ 3000) : quote_Number s = .ok (number s) := by
  unfold quote_Number number
  simp only [or_all]
  rw [num_j2 (.inr (.inr rfl)) (by simp; omega), num_j2 (.inl rfl) (by simp; omega), num_j2 (.inr (.inl rfl)) hl]
  by_cases h2 : (2 : Int) < (s.length : Int)
  · by_cases h0 : ((List.getD s 0 0).toNat : Int) = 48
    · rw [if_pos h2, if_pos (by omega), if_pos h0, if_pos (by omega), R.bind_ok]
      by_cases hx : ((List.getD s 1 0).toNat : Int) = 120 ∨ ((List.getD s 1 0).toNat : Int) = 88
      · rw [if_pos (decide_eq_true hx), if_pos (by omega), if_pos ⟨by omega, h0, hx⟩]
      · rw [if_neg (by simp only [decide_eq_true_eq]; exact hx), if_pos (by omega), if_pos (by omega), R.bind_ok, if_pos (decide_eq_true h0), if_pos (by omega), if_neg (fun h => hx h.2.2), if_pos ⟨by omega, h0⟩]
    · rw [if_pos h2, if_pos (by omega), if_neg h0, R.bind_ok, if_neg (by decide), if_pos (by omega), if_pos (by omega), R.bind_ok, if_neg (by simp only [decide_eq_true_eq]; exact h0), if_neg (fun h => h0 h.2.1), if_neg (fun h => h0 h.2)]
  · rw [if_neg h2, R.bind_ok, if_neg (by decide), if_neg (c := 2 < s.length ∧ _) (fun h => h2 (by omega))]
    by_cases h1 : (1 : Int) < (s.length : Int)
    · rw [if_pos h1, if_pos (by omega), R.bind_ok]
      by_cases h0 : ((List.getD s 0 0).toNat : Int) = 48
      · rw [if_pos (decide_eq_true h0), if_pos (by omega), if_pos ⟨by omega, h0⟩]
      · rw [if_neg (by simp only [decide_eq_true_eq]; exact h0), if_neg (fun h => h0 h.2)]
    · rw [if_neg h1, R.bind_ok, if_neg (by decide), if_neg (fun h => h1 (by omega))]
theorem rnumber_ok {s : List UInt8} (hl : s.length ≤ 3000) : glossaryref01_Number s = .ok (number s) := by
  rw [← number_ok hl]
  unfold glossaryref01_Number quote_Number
  simp only [or_all]
  rw [rnum_j2 (.inr (.inr rfl)) (by simp; omega), rnum_j2 (.inl rfl) (by simp; omega), rnum_j2 (.inr (.inl rfl)) hl, num_j2 (.inr (.inr rfl)) (by simp; omega), num_j2 (.inl rfl) (by simp; omega), num_j2 (.inr (.inl rfl)) hl]
  congr 1
  by_cases h2 : (2 : Int) < (s.length : Int)
  · rw [if_pos h2, if_pos h2]
    congr 1
    split
    · split
      · split
        · rename_i hx; have : ((List.getD s 1 0).toNat : Int) = 120 ∨ ((List.getD s 1 0).toNat : Int) = 88 := .inl hx; rw [decide_eq_true this]
        · rename_i hx; congr 1; exact decide_eq_decide.2 ⟨fun h => .inr h, fun h => h.elim (fun h => (hx h).elim) id⟩
      · rfl
    · rfl
  · rw [if_neg h2, if_neg h2]
end Go.Proofs.YtiigffdmjdooeaaGreatDoor.Pv
