/- Plain facts for plain functions: numbers of a kind, elements, rounds. -/
import Derived.Test.YtmjohmefhikelaaDoorPwU
set_option linter.unusedVariables false
set_option linter.unusedSimpArgs false
namespace Go.Proofs.YtmjohmefhikelaaDoor.Pv
open Go

theorem wrap64 {n : Int} (h : -9223372036854775808 ≤ n ∧ n ≤ 9223372036854775807) : IntKind.wrap .i64 n = n := by
  obtain ⟨h1, h2⟩ := h
  unfold IntKind.wrap
  simp [IntKind.bits, IntKind.signed]
  omega
theorem wrap32 {n : Int} (h : -2147483648 ≤ n ∧ n ≤ 2147483647) : IntKind.wrap .i32 n = n := by
  obtain ⟨h1, h2⟩ := h
  unfold IntKind.wrap
  simp [IntKind.bits, IntKind.signed]
  omega
theorem wrapu8 {n : Int} (h : 0 ≤ n ∧ n ≤ 255) : IntKind.wrap .u8 n = n := by
  obtain ⟨h1, h2⟩ := h
  unfold IntKind.wrap
  simp [IntKind.bits, IntKind.signed]
  omega
theorem wrapu32 {n : Int} (h : 0 ≤ n ∧ n ≤ 4294967295) : IntKind.wrap .u32 n = n := by
  obtain ⟨h1, h2⟩ := h
  unfold IntKind.wrap
  simp [IntKind.bits, IntKind.signed]
  omega
theorem wrapu64 {n : Int} (h : 0 ≤ n ∧ n ≤ 18446744073709551615) : IntKind.wrap .u64 n = n := by
  obtain ⟨h1, h2⟩ := h
  unfold IntKind.wrap
  simp [IntKind.bits, IntKind.signed]
  omega
/-- A text's sign at a place, and how many bytes it takes. -/
def runeAt (s : List UInt8) (pos : Nat) : Int := ((Utf8.decode ⟨s.toArray⟩ pos).1 : Int)
def runeW (s : List UInt8) (pos : Nat) : Nat := (Utf8.decode ⟨s.toArray⟩ pos).2
theorem nextT_t {s : List UInt8} {pos : Nat} (h : pos < s.length) : nextT s pos = .tup [.bool true, .int .i64 (pos : Int), .int .i32 (runeAt s pos)] := if_pos h
theorem nextT_f {s : List UInt8} {pos : Nat} (h : ¬ pos < s.length) : nextT s pos = .tup [.bool false] := if_neg h
theorem nextP_t {s : List UInt8} {pos : Nat} (h : pos < s.length) : nextP s pos = pos + runeW s pos := if_pos h
theorem nextP_f {s : List UInt8} {pos : Nat} (h : ¬ pos < s.length) : nextP s pos = pos := if_neg h
/-- One step on. -/
theorem next64 {i : Nat} (h : i < 1000000000) : IntKind.wrap .i64 ((i : Int) + 1) = ((i + 1 : Nat) : Int) := by rw [wrap64 (by omega)]; omega
theorem gt_at {α : Type} [Inhabited α] {l : List α} {i : Nat} (h : i < l.length) : gt l (i : Int) = l[i] := by simp [gt, List.getD, h]
theorem getD_at {α : Type} {l : List α} {i : Nat} {d : α} (h : i < l.length) : List.getD l i d = l[i] := by simp [List.getD, h]
theorem many_gt {n : Nat} (h : n < 1000000000) : n < Many := h
theorem drop_at {α : Type} {l : List α} {i : Nat} (h : i < l.length) : l.drop i = l[i] :: l.drop (i + 1) := List.drop_eq_getElem_cons h
theorem bind_if {α β : Type} {c : Prop} [Decidable c] {a b : R α} {f : α → R β} : (if c then a else b).bind f = if c then a.bind f else b.bind f := by split <;> rfl
/-- Every byte, by trying each. -/
theorem bytes_all {p : UInt8 → Prop} (h : ∀ i : Fin 256, p (UInt8.ofNat i.val)) (c : UInt8) : p c := by
  have := h ⟨c.toNat, c.toNat_lt⟩
  simpa using this
theorem toNat_ofNat_lt {i : Nat} (h : i < 256) : (UInt8.ofNat i).toNat = i := by simp [Nat.mod_eq_of_lt h]
end Go.Proofs.YtmjohmefhikelaaDoor.Pv
