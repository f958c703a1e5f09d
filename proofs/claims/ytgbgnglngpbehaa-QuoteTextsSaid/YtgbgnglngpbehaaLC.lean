/- The law on quoted texts, as plain functions: both write the same. -/
import Derived.Test.YtgbgnglngpbehaaLB
set_option linter.unusedVariables false
set_option linter.unusedSimpArgs false
set_option maxRecDepth 20000
namespace Go.Proofs.Ytgbgnglngpbehaa.Pv
open Go Go.Proofs

theorem t5' (c : UInt8) : o3 (u8 (IntKind.wrap .u8 (Int.tdiv (c.toNat : Int) 8))) = o2 c := by rw [← t6]; exact t5 c
theorem rtext_loop {x0 : List UInt8} (hl : x0.length ≤ 1000) : ∀ (d k i : Nat) (l : List UInt8), i + d = x0.length → d < k → l.length ≤ 4 * i + 1 → glossaryref01_Text_l1 x0 k l (i : Int) = .ok (l ++ (x0.drop i).flatMap qe)
  | 0, k, i, l, hi, hk, hll => by
    obtain ⟨k, rfl⟩ : ∃ m, k = m + 1 := ⟨k - 1, by omega⟩
    rw [glossaryref01_Text_l1, if_neg (by omega), List.drop_eq_nil_of_le (by omega)]
    simp
  | d + 1, k, i, l, hi, hk, hll => by
    obtain ⟨k, rfl⟩ : ∃ m, k = m + 1 := ⟨k - 1, by omega⟩
    have hlt : i < x0.length := by omega
    have hg := gt_at hlt
    have hq : (qe x0[i]).length ≤ 4 := qe_len _
    have ih := rtext_loop hl d k (i + 1) (l ++ qe x0[i]) (by omega) (by omega) (by simp; omega)
    have hd := drop_at hlt
    have hw := next64 (i := i) (by omega)
    have hfin : ∀ l', l' = l ++ qe x0[i] → glossaryref01_Text_l1 x0 k l' ((i + 1 : Nat) : Int) = .ok (l ++ (x0.drop i).flatMap qe) := by
      rintro _ rfl
      rw [ih, hd]; simp only [List.flatMap_cons, List.append_assoc]
    rw [glossaryref01_Text_l1, if_pos (by omega), if_pos (by omega)]
    obtain ⟨p1, p2, p3⟩ := oct x0[i]
    simp only [hg, hw, t4, t6, t5', enc1 p1, enc1 p2, enc1 p3, bind_if, R.bind_ok, eq34, eq92, eq9, eq10, eq13, decide_eq_true_eq, if_true]
    generalize hcc : x0[i] = c at *
    by_cases h1 : c = 34
    · subst h1
      have e := enc1 (c := 34) (by decide)
      simp only [e, if_true]
      rw [if_pos (by decide), if_pos (by simp; omega)]
      exact hfin _ (by simp [qe])
    rw [if_neg h1]
    by_cases h2 : c = 92
    · subst h2
      have e := enc1 (c := 92) (by decide)
      simp only [e, if_true]
      rw [if_pos (by decide), if_pos (by simp; omega)]
      exact hfin _ (by simp [qe])
    rw [if_neg h2]
    by_cases h3 : c = 9
    · rw [if_pos h3, if_pos (by simp; omega)]
      exact hfin _ (by simp [qe, h3])
    rw [if_neg h3]
    by_cases h4 : c = 10
    · rw [if_pos h4, if_pos (by simp; omega)]
      exact hfin _ (by simp [qe, h4])
    rw [if_neg h4]
    by_cases h5 : c = 13
    · rw [if_pos h5, if_pos (by simp; omega)]
      exact hfin _ (by simp [qe, h5])
    rw [if_neg h5]
    have hoct : ¬ (32 ≤ c.toNat ∧ c.toNat < 127) → qe c = [92, o1 c, o2 c, o3 c] := fun h => by
      simp only [qe, h1, h2, h3, h4, h5, or_self, if_false]; rw [if_neg h]
    by_cases h6 : (32 : Int) ≤ (c.toNat : Int)
    · rw [if_pos h6]
      by_cases h7 : (c.toNat : Int) ≤ 126
      · have e := enc1 (c := c) (by omega)
        simp only [e]
        rw [if_pos h7, if_pos (by simp; omega)]
        exact hfin _ (by simp only [qe, h1, h2, h3, h4, h5, or_self, if_false]; rw [if_pos (by omega)])
      · rw [if_neg h7, if_pos (by simp), if_pos (by simp), if_pos (by simp), if_pos (by simp; omega)]
        exact hfin _ (by rw [hoct (by omega)]; simp)
    · rw [if_neg h6, if_neg (by decide), if_pos (by simp), if_pos (by simp), if_pos (by simp), if_pos (by simp; omega)]
      exact hfin _ (by rw [hoct (by omega)]; simp)

theorem rtext_ok {b : List UInt8} (hl : b.length ≤ 1000) : glossaryref01_Text b = .ok (qt b) := by
  have h := flat_len4 b
  unfold glossaryref01_Text
  have := rtext_loop hl b.length Many 0 [] (by omega) (many_gt (by omega)) (by simp)
  simp only [Int.ofNat_zero, Int.cast_ofNat_Int, Int.natCast_zero] at this
  rw [this, R.bind_ok]
  simp only [glossaryref01_Text_j0, List.drop_zero, List.nil_append, List.length_append, List.length_cons, List.length_nil]
  rw [if_pos (by omega), if_pos (by omega)]
  simp [qt]

theorem texts_ok (b : List UInt8) : glossarylaw04_QuoteTexts b = .ok true := by
  unfold glossarylaw04_QuoteTexts
  rw [awake_ok, R.bind_ok, if_pos rfl]
  by_cases h : (500 : Int) < (b.length : Int)
  · rw [if_pos h]; rfl
  · rw [if_neg h, text_ok (by omega), R.bind_ok, rtext_ok (by omega), R.bind_ok, R.bind_ok]
    simp
theorem texts_law (b : List UInt8) : CA qprim 5 [.sl 1 (b.map byteV)] [] fun r _ => r = .ret (.bool true) :=
  glossarylaw04_QuoteTexts_call (KK := fun r => r = true) (X := fun _ => False) (by rw [texts_ok]; exact rfl) (fun r hr => by rw [hr]) (fun v hv => hv.elim)
end Go.Proofs.Ytgbgnglngpbehaa.Pv
