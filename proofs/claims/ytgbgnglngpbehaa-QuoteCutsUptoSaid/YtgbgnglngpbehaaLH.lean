/- Taking a quoted text: whole, with something behind it, and cut short. -/
import Derived.Test.YtgbgnglngpbehaaLG
set_option linter.unusedVariables false
set_option linter.unusedSimpArgs false
set_option maxRecDepth 20000
namespace Go.Proofs.Ytgbgnglngpbehaa.Pv
open Go Go.Proofs

theorem of_drop {α : Type} {l m : List α} {a d : α} {i : Nat} (h : l.drop i = a :: m) : i < l.length ∧ l.getD i d = a ∧ l.drop (i + 1) = m := by
  have hi : i < l.length := by
    rcases Nat.lt_or_ge i l.length with h' | h'
    · exact h'
    · rw [List.drop_eq_nil_of_le h'] at h; cases h
  rw [List.drop_eq_getElem_cons hi] at h
  cases h
  exact ⟨hi, by simp [List.getD, hi], rfl⟩
theorem drop_len {α : Type} {l m : List α} {i : Nat} (h : l.drop i = m) (hi : i ≤ l.length) : i + m.length = l.length := by
  subst h; simp; omega
theorem drop_more {α : Type} {l e m : List α} {i : Nat} (h : l.drop i = e ++ m) : l.drop (i + e.length) = m := by
  rw [← List.drop_drop, h]; simp
theorem byte_ne {c : UInt8} {n : Nat} (hn : n < 256) (h : c ≠ UInt8.ofNat n) : ¬ ((c.toNat : Int) = (n : Int)) := fun h' => h ((byte_eq hn).1 h')

theorem take_end {x0 : List UInt8} {k i : Nat} {acc : List UInt8} (hi : i = x0.length) : quote_Take_l0 x0 (k + 1) acc (i : Int) = .ok ([], (i : Int), 40) := by
  rw [quote_Take_l0, if_pos (by omega)]
section
variable {x0 : List UInt8} (hx : x0.length ≤ 100000) (h0 : List.getD x0 0 0 = 34)
include hx h0
theorem take_plain {k i : Nat} {acc t : List UInt8} {c : UInt8} (hd : x0.drop i = c :: t) (hc : c ≠ 34 ∧ c ≠ 92 ∧ c ≠ 10 ∧ c ≠ 0) (ha : acc.length ≤ 1000000) :
    quote_Take_l0 x0 (k + 1) acc (i : Int) = quote_Take_l0 x0 k (acc ++ [c]) ((i + 1 : Nat) : Int) := by
  obtain ⟨hi, hg, -⟩ := of_drop (d := 0) hd
  rw [quote_Take_l0, if_neg (by omega), if_pos (by omega), if_pos (by omega), Int.toNat_natCast, hg, h0, if_neg (fun h => hc.1 (UInt8.toNat_inj.1 (by omega))), if_neg (c := (c.toNat : Int) = 0) (byte_ne (n := 0) (by decide) hc.2.2.2), quote_Take_j1,
    if_neg (by simp only [decide_eq_true_eq]; exact byte_ne (n := 10) (by decide) hc.2.2.1), Int.toNat_natCast, hg, if_neg (c := (c.toNat : Int) = 92) (byte_ne (n := 92) (by decide) hc.2.1), if_pos (by simp; omega), next64 (by omega)]
theorem take_esc {k i : Nat} {acc t l : List UInt8} {n : Nat} (hd : x0.drop i = 92 :: t) (he : quote_escaped t = .ok (l, (n : Int))) (hn : n ≠ 0) (hn' : i + n ≤ 100000) (hl : l.length ≤ 4) (ha : acc.length ≤ 1000000) :
    quote_Take_l0 x0 (k + 1) acc (i : Int) = quote_Take_l0 x0 k (acc ++ l) ((i + 1 + n : Nat) : Int) := by
  obtain ⟨hi, hg, ht⟩ := of_drop (d := 0) hd
  rw [quote_Take_l0, if_neg (by omega), if_pos (by omega), if_pos (by omega), Int.toNat_natCast, hg, h0, if_neg (by decide), if_neg (by decide), quote_Take_j1,
    if_neg (by decide), Int.toNat_natCast, hg, if_pos (by decide), next64 (by omega), if_pos (by omega), Int.toNat_natCast, ht, he, R.bind_ok]
  dsimp only
  rw [if_neg (by omega), if_pos (by omega), next64 (by omega), wrap64 (by omega)]
  congr 1
  omega
theorem take_bad {k i : Nat} {acc t l : List UInt8} (hd : x0.drop i = 92 :: t) (he : quote_escaped t = .ok (l, 0)) :
    quote_Take_l0 x0 (k + 1) acc (i : Int) = .ok ([], (i : Int), 40) := by
  obtain ⟨hi, hg, ht⟩ := of_drop (d := 0) hd
  rw [quote_Take_l0, if_neg (by omega), if_pos (by omega), if_pos (by omega), Int.toNat_natCast, hg, h0, if_neg (by decide), if_neg (by decide), quote_Take_j1,
    if_neg (by decide), Int.toNat_natCast, hg, if_pos (by decide), next64 (by omega), if_pos (by omega), Int.toNat_natCast, ht, he, R.bind_ok]
  dsimp only
  rw [if_pos rfl]
theorem take_quote {k i : Nat} {acc t : List UInt8} (hd : x0.drop i = 34 :: t) : quote_Take_l0 x0 (k + 1) acc (i : Int) = .ok (acc, ((i + 1 : Nat) : Int), 0) := by
  obtain ⟨hi, hg, -⟩ := of_drop (d := 0) hd
  rw [quote_Take_l0, if_neg (by omega), if_pos (by omega), if_pos (by omega), Int.toNat_natCast, hg, h0, if_pos rfl, next64 (by omega)]
theorem take_loop : ∀ (r : List UInt8) (k i : Nat) (acc more : List UInt8), x0.drop i = r.flatMap qe ++ 34 :: more → i ≤ x0.length → r.length < k → acc.length + r.length ≤ 1000000 →
    quote_Take_l0 x0 k acc (i : Int) = .ok (acc ++ r, ((i + (r.flatMap qe).length + 1 : Nat) : Int), 0)
  | [], k, i, acc, more, hd, hi, hk, ha => by
    obtain ⟨k, rfl⟩ : ∃ m, k = m + 1 := ⟨k - 1, by omega⟩
    rw [take_quote hx h0 (t := more) (by simpa using hd)]
    simp
  | c :: r, k, i, acc, more, hd, hi, hk, ha => by
    obtain ⟨k, rfl⟩ : ∃ m, k = m + 1 := ⟨k - 1, by omega⟩
    simp only [List.length_cons] at hk ha
    have hl := drop_len hd hi
    simp only [List.flatMap_cons, List.append_assoc, List.length_append, List.length_cons] at hd hl
    rcases qe_cases c with ⟨e, hc⟩ | ⟨e, hq, h1, h3, he, -⟩
    · rw [e] at hd hl
      simp only [List.length_cons, List.length_nil] at hl
      rw [take_plain hx h0 hd hc (by omega), take_loop r k (i + 1) (acc ++ [c]) more (of_drop (d := 0) hd).2.2 (by omega) (by omega) (by simp; omega)]
      simp only [List.append_assoc, List.cons_append, List.nil_append, List.flatMap_cons, e, List.length_cons]
      congr 3
      omega
    · rw [hq] at hd hl
      simp only [List.cons_append, List.length_cons] at hd hl
      have hd' := drop_more (of_drop (d := 0) hd).2.2
      rw [take_esc hx h0 hd (he _) h1 (by omega) (by simp) (by omega), take_loop r k (i + 1 + e.length) (acc ++ [c]) more hd' (by omega) (by omega) (by simp; omega)]
      simp only [List.append_assoc, List.cons_append, List.nil_append, List.flatMap_cons, hq, List.length_cons, List.length_append]
      congr 3
      omega
/-- Cut short of its closing quote. -/
theorem cut_loop : ∀ (r : List UInt8) (k i m : Nat) (acc more : List UInt8), x0.drop i = (r.flatMap qe ++ more).take m → m ≤ (r.flatMap qe).length → i ≤ x0.length → r.length + 1 < k → acc.length + 4 * r.length ≤ 1000000 →
    ∃ p : Nat, p ≤ x0.length ∧ quote_Take_l0 x0 k acc (i : Int) = .ok ([], (p : Int), 40)
  | r, k, i, 0, acc, more, hd, hm, hi, hk, ha => by
    obtain ⟨k, rfl⟩ : ∃ m, k = m + 1 := ⟨k - 1, by omega⟩
    have hl := drop_len hd hi
    exact ⟨i, hi, take_end (by simpa using hl)⟩
  | [], k, i, m + 1, acc, more, hd, hm, hi, hk, ha => absurd hm (by simp)
  | c :: r, k, i, m + 1, acc, more, hd, hm, hi, hk, ha => by
    obtain ⟨k, rfl⟩ : ∃ m, k = m + 1 := ⟨k - 1, by omega⟩
    simp only [List.length_cons] at hk ha
    have hl := drop_len hd hi
    simp only [List.flatMap_cons, List.append_assoc, List.length_append] at hd hm
    rcases qe_cases c with ⟨e, hc⟩ | ⟨e, hq, h1, h3, he, hp⟩
    · rw [e] at hd hm
      simp only [List.cons_append, List.nil_append, List.take_succ_cons, List.length_cons, List.length_nil] at hd hm
      have ho := of_drop (d := 0) hd
      rw [take_plain hx h0 hd hc (by omega)]
      exact cut_loop r k (i + 1) m (acc ++ [c]) more ho.2.2 (by omega) (by omega) (by omega) (by simp; omega)
    · rw [hq] at hd hm
      simp only [List.cons_append, List.take_succ_cons, List.length_cons] at hd hm
      have ho := of_drop (d := 0) hd
      by_cases hj : m < e.length
      · rw [List.take_append_of_le_length (by omega)] at hd ho
        obtain ⟨l, n, h, hl4, hn⟩ := hp m hj
        have hlen : i + 1 + m = x0.length := by
          have := drop_len hd hi
          simp only [List.length_cons, List.length_take] at this
          omega
        by_cases hz : n = 0
        · subst hz
          exact ⟨i, hi, take_bad hx h0 hd h⟩
        · obtain rfl : n = (m : Int) := hn.resolve_left hz
          obtain ⟨k, rfl⟩ : ∃ m, k = m + 1 := ⟨k - 1, by omega⟩
          rw [take_esc hx h0 hd h (by omega) (by omega) hl4 (by omega), hlen]
          exact ⟨x0.length, Nat.le_refl _, take_end rfl⟩
      · have ht : List.take m (e ++ (List.flatMap qe r ++ more)) = e ++ List.take (m - e.length) (List.flatMap qe r ++ more) := by
          rw [List.take_append, List.take_of_length_le (by omega)]
        rw [ht] at hd ho
        have hd' := drop_more ho.2.2
        have hlen := drop_len hd hi
        simp only [List.length_cons, List.length_append] at hlen
        rw [take_esc hx h0 hd (he _) h1 (by omega) (by simp) (by omega)]
        exact cut_loop r k (i + 1 + e.length) (m - e.length) (acc ++ [c]) more hd' (by omega) (by omega) (by omega) (by simp; omega)
end
theorem back_ok {b more : List UInt8} (hb : b.length ≤ 500) (hm : more.length ≤ 1000) : quote_Take (qt b ++ more) = .ok (b, ((qt b).length : Int), 0) := by
  have hl := flat_len4 b
  have hx : (qt b ++ more).length ≤ 100000 := by simp only [qt, List.length_cons, List.length_append, List.length_nil]; omega
  have h := take_loop hx rfl b Many 1 [] more (by simp [qt]) (by simp [qt]) (many_gt (by omega)) (by simp; omega)
  have h0 : List.getD (qt b ++ more) 0 0 = 34 := rfl
  have hq : (qt b).length = (b.flatMap qe).length + 2 := by simp only [qt, List.length_cons, List.length_append, List.length_nil]
  have e : (1 + (b.flatMap qe).length + 1 : Nat) = (qt b).length := by omega
  rw [e] at h
  rw [quote_Take, if_neg (by simp [qt]), if_pos (by simp only [qt, List.length_cons, List.length_append]; omega), h0, if_pos (by decide), R.bind_ok, if_neg (by decide)]
  exact h
theorem cut_ok {b : List UInt8} (hb : b.length ≤ 500) {n : Nat} (h1 : 1 ≤ n) (hn : n < (qt b).length) : ∃ p : Nat, p ≤ n ∧ quote_Take ((qt b).take n) = .ok ([], (p : Int), 40) := by
  have hl := flat_len4 b
  have hq : (qt b).length = (b.flatMap qe).length + 2 := by simp only [qt, List.length_cons, List.length_append, List.length_nil]
  have hx : ((qt b).take n).length ≤ 100000 := by simp only [List.length_take]; omega
  obtain ⟨m, rfl⟩ : ∃ m, n = m + 1 := ⟨n - 1, by omega⟩
  have h0 : List.getD ((qt b).take (m + 1)) 0 0 = 34 := rfl
  have hln : ((qt b).take (m + 1)).length = m + 1 := by simp only [List.length_take]; omega
  obtain ⟨p, hp, h⟩ := cut_loop hx h0 b Many 1 m [] [34] (by simp [qt]) (by omega) (by omega) (many_gt (by omega)) (by simp; omega)
  refine ⟨p, by omega, ?_⟩
  rw [quote_Take, if_neg (by simp [qt]), if_pos (by omega), h0, if_pos (by decide), R.bind_ok, if_neg (by decide)]
  exact h
end Go.Proofs.Ytgbgnglngpbehaa.Pv
