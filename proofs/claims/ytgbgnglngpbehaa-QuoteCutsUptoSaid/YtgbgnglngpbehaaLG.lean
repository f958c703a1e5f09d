/- What a quoted text is read back as: the text, whatever stands behind it. -/
import Derived.Test.YtgbgnglngpbehaaG5
import Derived.Test.YtgbgnglngpbehaaLB
import Derived.Test.YtgbgnglngpbehaaLE
set_option linter.unusedVariables false
set_option linter.unusedSimpArgs false
set_option maxRecDepth 20000
namespace Go.Proofs.Ytgbgnglngpbehaa.Pv
open Go Go.Proofs

theorem dstep {l : List UInt8} {k i : Nat} {v : Int} (hi : i < l.length) (h3 : i < 3) (hv : 0 ≤ v ∧ v ≤ 1000) (hw : wd l[i] < 8) : quote_digits_l1 l 8 3 (k + 1) v (i : Int) = quote_digits_l1 l 8 3 k (v * 8 + wd l[i]) ((i + 1 : Nat) : Int) := by
  have h0 := (wd_all l[i]).2.2.1
  have hg : List.getD l (Int.toNat (i : Int)) 0 = l[i] := getD_at hi
  rw [quote_digits_l1, if_pos (c := (i : Int) < _) (by split <;> omega), if_pos (by omega), hg, worth_ok, R.bind_ok, R.bind_ok, if_pos (decide_eq_true hw), if_pos (by omega), R.bind_ok, wrap64 (n := v * 8) (by omega), wrap64 (by omega), next64 (by omega)]
theorem dstop {l : List UInt8} {k i : Nat} {v : Int} (h : l.length ≤ i ∨ 3 ≤ i) : quote_digits_l1 l 8 3 (k + 1) v (i : Int) = .ok (v, (i : Int)) := by
  rw [quote_digits_l1, if_neg (c := (i : Int) < _) (by split <;> omega), R.bind_ok, if_neg (by decide)]
theorem oct_tab : ∀ i : Fin 256, let c := UInt8.ofNat i.val
    wd (o1 c) = (c.toNat : Int) / 64 ∧ wd (o2 c) = (c.toNat : Int) / 8 % 8 ∧ wd (o3 c) = (c.toNat : Int) % 8 ∧ Lib.indexByte [97, 98, 102, 110, 114, 116, 118, 92, 39, 34, 63] (o1 c) = -1
    ∧ ¬ ((o1 c).toNat : Int) = 120 ∧ ¬ ((o1 c).toNat : Int) = 88 ∧ ¬ ((o1 c).toNat : Int) = 117 ∧ ¬ ((o1 c).toNat : Int) = 85 := by decide +kernel
theorem oct_all (c : UInt8) : wd (o1 c) = (c.toNat : Int) / 64 ∧ wd (o2 c) = (c.toNat : Int) / 8 % 8 ∧ wd (o3 c) = (c.toNat : Int) % 8 ∧ Lib.indexByte [97, 98, 102, 110, 114, 116, 118, 92, 39, 34, 63] (o1 c) = -1
    ∧ ¬ ((o1 c).toNat : Int) = 120 ∧ ¬ ((o1 c).toNat : Int) = 88 ∧ ¬ ((o1 c).toNat : Int) = 117 ∧ ¬ ((o1 c).toNat : Int) = 85 := bytes_all (p := fun c => wd (o1 c) = (c.toNat : Int) / 64 ∧ wd (o2 c) = (c.toNat : Int) / 8 % 8 ∧ wd (o3 c) = (c.toNat : Int) % 8 ∧ Lib.indexByte [97, 98, 102, 110, 114, 116, 118, 92, 39, 34, 63] (o1 c) = -1
    ∧ ¬ ((o1 c).toNat : Int) = 120 ∧ ¬ ((o1 c).toNat : Int) = 88 ∧ ¬ ((o1 c).toNat : Int) = 117 ∧ ¬ ((o1 c).toNat : Int) = 85) oct_tab c
theorem many4 : Many = 999999996 + 1 + 1 + 1 + 1 := rfl
theorem digits_of {l : List UInt8} {p : Int × Int} (e : quote_digits_l1 l 8 3 (999999996 + 1 + 1 + 1 + 1) 0 ((0 : Nat) : Int) = .ok p) : quote_digits l 8 3 = .ok p := by
  obtain ⟨a, b⟩ := p
  have e' : quote_digits_l1 l 8 3 Many 0 0 = .ok (a, b) := e
  rw [quote_digits, e']
  rfl
theorem dig3 (c : UInt8) (m : List UInt8) : quote_digits (o1 c :: o2 c :: o3 c :: m) 8 3 = .ok ((c.toNat : Int), 3) := by
  obtain ⟨w1, w2, w3, -⟩ := oct_all c
  have hc := c.toNat_lt
  have e : quote_digits_l1 (o1 c :: o2 c :: o3 c :: m) 8 3 (999999996 + 1 + 1 + 1 + 1) 0 ((0 : Nat) : Int) = .ok ((c.toNat : Int), 3) := by
    rw [dstep (l := o1 c :: o2 c :: o3 c :: m) (k := 999999996 + 1 + 1 + 1) (i := 0) (v := 0) (by simp) (by omega) (by omega) (by simp only [List.getElem_cons_zero]; omega)]
    simp only [List.getElem_cons_zero]
    rw [dstep (l := o1 c :: o2 c :: o3 c :: m) (k := 999999996 + 1 + 1) (i := 0 + 1) (by simp) (by omega) (by omega) (by simp only [List.getElem_cons_succ, List.getElem_cons_zero]; omega)]
    simp only [List.getElem_cons_succ, List.getElem_cons_zero]
    rw [dstep (l := o1 c :: o2 c :: o3 c :: m) (k := 999999996 + 1) (i := 0 + 1 + 1) (by simp) (by omega) (by omega) (by simp only [List.getElem_cons_succ, List.getElem_cons_zero]; omega)]
    simp only [List.getElem_cons_succ, List.getElem_cons_zero]
    rw [dstop (.inr (by omega))]
    congr 2
    omega
  exact digits_of e
theorem dig2 (c : UInt8) : ∃ v : Int, 0 ≤ v ∧ v ≤ 255 ∧ quote_digits [o1 c, o2 c] 8 3 = .ok (v, 2) := by
  obtain ⟨w1, w2, w3, -⟩ := oct_all c
  have hc := c.toNat_lt
  have e : quote_digits_l1 [o1 c, o2 c] 8 3 (999999996 + 1 + 1 + 1 + 1) 0 ((0 : Nat) : Int) = .ok (wd (o1 c) * 8 + wd (o2 c), 2) := by
    rw [dstep (l := [o1 c, o2 c]) (k := 999999996 + 1 + 1 + 1) (i := 0) (v := 0) (by simp) (by omega) (by omega) (by simp only [List.getElem_cons_zero]; omega)]
    simp only [List.getElem_cons_zero]
    rw [dstep (l := [o1 c, o2 c]) (k := 999999996 + 1 + 1) (i := 0 + 1) (by simp) (by omega) (by omega) (by simp only [List.getElem_cons_succ, List.getElem_cons_zero]; omega)]
    simp only [List.getElem_cons_succ, List.getElem_cons_zero]
    rw [dstop (.inl (by simp))]
    congr 2
    omega
  have e' : quote_digits [o1 c, o2 c] 8 3 = .ok (wd (o1 c) * 8 + wd (o2 c), 2) := digits_of e
  exact ⟨_, by omega, by omega, e'⟩
theorem dig1 (c : UInt8) : ∃ v : Int, 0 ≤ v ∧ v ≤ 255 ∧ quote_digits [o1 c] 8 3 = .ok (v, 1) := by
  obtain ⟨w1, w2, w3, -⟩ := oct_all c
  have hc := c.toNat_lt
  have e : quote_digits_l1 [o1 c] 8 3 (999999996 + 1 + 1 + 1 + 1) 0 ((0 : Nat) : Int) = .ok (wd (o1 c), 1) := by
    rw [dstep (l := [o1 c]) (k := 999999996 + 1 + 1 + 1) (i := 0) (v := 0) (by simp) (by omega) (by omega) (by simp only [List.getElem_cons_zero]; omega)]
    simp only [List.getElem_cons_zero]
    rw [dstop (.inl (by simp))]
    congr 2
    omega
  have e' : quote_digits [o1 c] 8 3 = .ok (wd (o1 c), 1) := digits_of e
  exact ⟨_, by omega, by omega, e'⟩
theorem esc_dig (c : UInt8) (t : List UInt8) : quote_escaped (o1 c :: t) = (quote_digits (o1 c :: t) 8 3).bind fun r => if (255 : Int) < r.1 then R.ok ([], 0) else R.ok ([u8 (IntKind.wrap .u8 r.1)], r.2) := by
  obtain ⟨-, -, -, wi, h1, h2, h3, h4⟩ := oct_all c
  have hg : List.getD (o1 c :: t) 0 0 = o1 c := rfl
  have hp : (0 : Nat) ≤ 0 ∧ (0 : Int) < ((o1 c :: t).length : Int) := by simp only [List.length_cons]; omega
  have hx : strings_IndexByte [97, 98, 102, 110, 114, 116, 118, 92, 39, 34, 63] (o1 c) = .ok (-1) := by rw [strings_IndexByte, wi]
  rw [quote_escaped, if_neg (by simp), if_pos hp, hg, hx, R.bind_ok, if_neg (by decide), if_pos hp, if_neg h1, quote_escaped_j0, if_neg (by simp only [decide_eq_true_eq]; exact h2), hg, if_neg h3, if_neg h4]
theorem esc_oct (c : UInt8) (t : List UInt8) : quote_escaped (o1 c :: o2 c :: o3 c :: t) = .ok ([c], 3) := by
  have hc := c.toNat_lt
  rw [esc_dig, dig3, R.bind_ok, if_neg (by omega), wrapu8 (by omega), u8_toNat]
theorem esc_oct2 (c : UInt8) : ∃ l, quote_escaped [o1 c, o2 c] = .ok (l, 2) ∧ l.length ≤ 4 := by
  obtain ⟨v, h0, h1, h⟩ := dig2 c
  rw [esc_dig, h, R.bind_ok, if_neg (by omega)]
  exact ⟨_, rfl, by simp⟩
theorem esc_oct1 (c : UInt8) : ∃ l, quote_escaped [o1 c] = .ok (l, 1) ∧ l.length ≤ 4 := by
  obtain ⟨v, h0, h1, h⟩ := dig1 c
  rw [esc_dig, h, R.bind_ok, if_neg (by omega)]
  exact ⟨_, rfl, by simp⟩
theorem esc_nil : quote_escaped [] = .ok ([], 0) := by rw [quote_escaped, if_pos rfl]
theorem esc_one {e : UInt8} {n : Int} {c : UInt8} (hx : strings_IndexByte [97, 98, 102, 110, 114, 116, 118, 92, 39, 34, 63] e = .ok n) (h0 : 0 ≤ n ∧ n < 11) (hc : List.getD [7, 8, 12, 10, 13, 9, 11, 92, 39, 34, 63] (Int.toNat n) 0 = c) (t : List UInt8) : quote_escaped (e :: t) = .ok ([c], 1) := by
  have hg : List.getD (e :: t) 0 0 = e := rfl
  have hp : (0 : Nat) ≤ 0 ∧ (0 : Int) < ((e :: t).length : Int) := by simp only [List.length_cons]; omega
  rw [quote_escaped, if_neg (by simp), if_pos hp, hg, hx, R.bind_ok, if_pos h0.1, if_pos (by simp only [List.length_cons, List.length_nil]; omega), hc]
theorem esc_t (t : List UInt8) : quote_escaped (116 :: t) = .ok ([9], 1) := esc_one (n := 5) (by kernel_rfl) (by decide) rfl t
theorem esc_n (t : List UInt8) : quote_escaped (110 :: t) = .ok ([10], 1) := esc_one (n := 3) (by kernel_rfl) (by decide) rfl t
theorem esc_r (t : List UInt8) : quote_escaped (114 :: t) = .ok ([13], 1) := esc_one (n := 4) (by kernel_rfl) (by decide) rfl t
theorem esc_q (t : List UInt8) : quote_escaped (34 :: t) = .ok ([34], 1) := esc_one (n := 9) (by kernel_rfl) (by decide) rfl t
theorem esc_b (t : List UInt8) : quote_escaped (92 :: t) = .ok ([92], 1) := esc_one (n := 7) (by kernel_rfl) (by decide) rfl t
/-- A byte is written plain, or behind a backslash; what stands there reads as the byte, and cut short it reads as nothing, or up to the end. -/
theorem qe_cases (c : UInt8) : (qe c = [c] ∧ c ≠ 34 ∧ c ≠ 92 ∧ c ≠ 10 ∧ c ≠ 0) ∨ (∃ e, qe c = 92 :: e ∧ e.length ≠ 0 ∧ e.length ≤ 3 ∧ (∀ t, quote_escaped (e ++ t) = .ok ([c], (e.length : Int)))
    ∧ ∀ j, j < e.length → ∃ l n, quote_escaped (e.take j) = .ok (l, n) ∧ l.length ≤ 4 ∧ (n = 0 ∨ n = (j : Int))) := by
  have one : ∀ e1 : UInt8, ∀ j, j < [e1].length → ∃ (l : List UInt8) (n : Int), quote_escaped ([e1].take j) = .ok (l, n) ∧ l.length ≤ 4 ∧ (n = 0 ∨ n = (j : Int)) := by
    intro e1 j hj
    obtain rfl : j = 0 := by simpa using hj
    exact ⟨[], 0, esc_nil, by simp, .inl rfl⟩
  by_cases h1 : c = 34
  · subst h1; exact .inr ⟨[34], rfl, by decide, by decide, esc_q, one _⟩
  by_cases h2 : c = 92
  · subst h2; exact .inr ⟨[92], rfl, by decide, by decide, esc_b, one _⟩
  by_cases h3 : c = 9
  · subst h3; exact .inr ⟨[116], rfl, by decide, by decide, esc_t, one _⟩
  by_cases h4 : c = 10
  · subst h4; exact .inr ⟨[110], rfl, by decide, by decide, esc_n, one _⟩
  by_cases h5 : c = 13
  · subst h5; exact .inr ⟨[114], rfl, by decide, by decide, esc_r, one _⟩
  by_cases h6 : 32 ≤ c.toNat ∧ c.toNat < 127
  · refine .inl ⟨by simp only [qe, h1, h2, h3, h4, h5, or_self, if_false]; rw [if_pos h6], h1, h2, h4, ?_⟩
    rintro rfl
    exact absurd h6.1 (by decide)
  · refine .inr ⟨[o1 c, o2 c, o3 c], by simp only [qe, h1, h2, h3, h4, h5, or_self, if_false]; rw [if_neg h6], by simp, by simp, fun t => by exact esc_oct c t, ?_⟩
    intro j hj
    have hj : j < 3 := hj
    obtain rfl | rfl | rfl : j = 0 ∨ j = 1 ∨ j = 2 := by omega
    · exact ⟨[], 0, esc_nil, by simp, .inl rfl⟩
    · obtain ⟨l, h, hl⟩ := esc_oct1 c
      exact ⟨l, 1, h, hl, .inr rfl⟩
    · obtain ⟨l, h, hl⟩ := esc_oct2 c
      exact ⟨l, 2, h, hl, .inr rfl⟩
end Go.Proofs.Ytgbgnglngpbehaa.Pv
