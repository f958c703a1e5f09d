/- Digits: both write the same. -/
import Derived.Test.YtiigffdmjdooeaaGreatDoorLE
set_option linter.unusedVariables false
set_option linter.unusedSimpArgs false
set_option maxRecDepth 20000
namespace Go.Proofs.YtiigffdmjdooeaaGreatDoor.Pv
open Go Go.Proofs

def dch (x : Nat) : UInt8 := UInt8.ofNat (48 + x % 10)
def pd : Nat → Nat → List UInt8 → List UInt8
  | 0, _, acc => acc
  | f + 1, x, acc => if x / 10 = 0 then dch x :: acc else pd f (x / 10) (dch x :: acc)
theorem dch_tab : ∀ d : Fin 10, u8 (IntKind.wrap .u8 (48 + ((u8 (IntKind.wrap .u8 (d.val : Int))).toNat : Int))) = UInt8.ofNat (48 + d.val) ∧ (Utf8.encode (IntKind.wrap .i32 (IntKind.wrap .u64 (48 + (d.val : Int))))).data.toList = [UInt8.ofNat (48 + d.val)] := by decide +kernel
theorem mod10 (x : Nat) : Int.tmod (x : Int) 10 = ((x % 10 : Nat) : Int) := by rw [Int.tmod_eq_emod_of_nonneg (by omega)]; omega
theorem div10 (x : Nat) : Int.tdiv (x : Int) 10 = ((x / 10 : Nat) : Int) := by rw [Int.tdiv_eq_ediv_of_nonneg (by omega)]; omega
theorem dch_p (x : Nat) : u8 (IntKind.wrap .u8 (48 + ((u8 (IntKind.wrap .u8 (Int.tmod (x : Int) 10))).toNat : Int))) = dch x := by
  rw [mod10]; exact (dch_tab ⟨x % 10, Nat.mod_lt _ (by decide)⟩).1
theorem dch_r (x : Nat) : (Utf8.encode (IntKind.wrap .i32 (IntKind.wrap .u64 (48 + Int.tmod (x : Int) 10)))).data.toList = [dch x] := by
  rw [mod10]; exact (dch_tab ⟨x % 10, Nat.mod_lt _ (by decide)⟩).2
theorem drop_set_at {α : Type} {l : List α} {i : Nat} {a : α} (h : i < l.length) : (l.set i a).drop i = a :: l.drop (i + 1) := by
  rw [List.drop_eq_getElem_cons (by simpa using h)]
  simp only [List.getElem_set_self]
  congr 1
  rw [List.drop_set]
  rw [if_pos (by omega)]
theorem digits_loop : ∀ (i k x : Nat) (o : List UInt8), o.length = 20 → i < k → i ≤ 19 → x < 10 ^ (i + 1) → x < 18446744073709551616 → quote_Digits_l0 k (x : Int) ((i + 1 : Nat) : Int) o = .ok (pd (i + 1) x (o.drop (i + 1)))
  | i, k, x, o, ho, hk, hi, hx, h64 => by
    obtain ⟨k, rfl⟩ : ∃ m, k = m + 1 := ⟨k - 1, by omega⟩
    have e1 : IntKind.wrap .i64 (((i + 1 : Nat) : Int) - 1) = (i : Int) := by rw [wrap64 (by omega)]; omega
    have e2 : IntKind.wrap .u64 (((x / 10 : Nat) : Int)) = ((x / 10 : Nat) : Int) := wrapu64 (by omega)
    rw [quote_Digits_l0]
    simp only [e1, dch_p, div10, e2, Int.toNat_natCast, List.length_set]
    have hs : (o.set i (dch x)).drop i = dch x :: o.drop (i + 1) := drop_set_at (by omega)
    have e3 : (20 - (i : Int)).toNat = 20 - i := by omega
    rw [if_pos (by omega), if_pos (by omega), pd]
    by_cases h0 : x / 10 = 0
    · rw [if_pos (by omega), if_pos (by omega), if_pos (by omega), if_pos h0, hs, List.take_of_length_le (by simp; omega)]
    · rw [if_neg (by omega), if_neg h0]
      obtain _ | i := i
      · exact absurd hx (by omega)
      · rw [← hs]
        exact digits_loop i k (x / 10) _ (by simp [ho]) (by omega) (by omega) (by rw [Nat.pow_succ] at hx; omega) (by omega)
theorem rdigits_loop : ∀ (i k x : Nat) (acc : List UInt8), acc.length + i ≤ 19 → i + 1 < k → (0 < x ∨ acc = []) → x < 10 ^ (i + 1) → x < 18446744073709551616 → glossaryref01_Digits_l1 k (x : Int) acc = .ok (pd (i + 1) x acc)
  | i, k, x, acc, ha, hk, hc, hx, h64 => by
    obtain ⟨k, rfl⟩ : ∃ m, k = m + 1 := ⟨k - 1, by omega⟩
    have e2 : IntKind.wrap .u64 (((x / 10 : Nat) : Int)) = ((x / 10 : Nat) : Int) := wrapu64 (by omega)
    have hgo : (if (0 : Int) < (x : Int) then (R.ok true) else (R.ok (decide (acc = [])))) = R.ok true := by
      rcases hc with h | h
      · rw [if_pos (by omega)]
      · subst h; simp
    rw [glossaryref01_Digits_l1, hgo, R.bind_ok, if_pos rfl]
    simp only [dch_r, div10, e2]
    rw [if_pos (by simp; omega), pd]
    by_cases h0 : x / 10 = 0
    · rw [if_pos h0, h0]
      obtain ⟨k, rfl⟩ : ∃ m, k = m + 1 := ⟨k - 1, by omega⟩
      rw [glossaryref01_Digits_l1, if_neg (by omega), R.bind_ok, if_neg (by simp)]
      rfl
    · rw [if_neg h0]
      obtain _ | i := i
      · exact absurd hx (by omega)
      · exact rdigits_loop i k (x / 10) _ (by simp; omega) (by omega) (.inl (by omega)) (by rw [Nat.pow_succ] at hx; omega) (by omega)
theorem digits_ok {x : Nat} (h : x < 18446744073709551616) : quote_Digits (x : Int) = .ok (pd 20 x []) := by
  have := digits_loop 19 Many x [0, 0, 0, 0, 0, 0, 0, 0, 0, 0, 0, 0, 0, 0, 0, 0, 0, 0, 0, 0] rfl (many_gt (by omega)) (by omega) (by omega) h
  exact this
theorem rdigits_ok {x : Nat} (h : x < 18446744073709551616) : glossaryref01_Digits (x : Int) = .ok (pd 20 x []) := by
  rw [glossaryref01_Digits, rdigits_loop 19 Many x [] (by simp) (many_gt (by omega)) (.inr rfl) (by omega) h]
  rfl
end Go.Proofs.YtiigffdmjdooeaaGreatDoor.Pv
