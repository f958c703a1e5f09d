/- The laws of quoted texts read back, as plain functions. -/
import Derived.Test.YtgbgnglngpbehaaG15
import Derived.Test.YtgbgnglngpbehaaG17
import Derived.Test.YtgbgnglngpbehaaLF
import Derived.Test.YtgbgnglngpbehaaLH
set_option linter.unusedVariables false
set_option linter.unusedSimpArgs false
set_option maxRecDepth 20000
namespace Go.Proofs.Ytgbgnglngpbehaa.Pv
open Go Go.Proofs

theorem dch_fact : ∀ d : Fin 10, ((UInt8.ofNat (48 + d.val)).toNat : Int) = 48 + (d.val : Int) ∧ wd (UInt8.ofNat (48 + d.val)) = (d.val : Int) := by decide +kernel
theorem dch_wd (x : Nat) : ((dch x).toNat : Int) = 48 + ((x % 10 : Nat) : Int) ∧ wd (dch x) = ((x % 10 : Nat) : Int) := dch_fact ⟨x % 10, Nat.mod_lt _ (by decide)⟩
theorem pd_ne : ∀ (f x : Nat) (acc : List UInt8), pd (f + 1) x acc ≠ []
  | 0, x, acc => by rw [pd]; split <;> simp [pd]
  | f + 1, x, acc => by
    rw [pd]
    split
    · simp
    · exact pd_ne f _ _
theorem pd_head : ∀ (f x : Nat) (acc : List UInt8), x < 10 ^ (f + 1) → 0 < x → ∃ (y : Nat) (t : List UInt8), 0 < y ∧ y < 10 ∧ pd (f + 1) x acc = dch y :: t
  | f, x, acc, hx, h0 => by
    by_cases h : x / 10 = 0
    · exact ⟨x, acc, h0, by omega, by rw [pd, if_pos h]⟩
    · obtain _ | f := f
      · exact absurd hx (by omega)
      · rw [pd, if_neg h]
        exact pd_head f (x / 10) _ (by rw [Nat.pow_succ] at hx; omega) (by omega)
/-- The digits of a number behind those that were read read as the number. -/
theorem num_pd : ∀ (f x : Nat) (acc : List UInt8), x < 10 ^ (f + 1) → x < 18446744073709551616 → num 10 (pd (f + 1) x acc) 0 = num 10 acc (x : Int)
  | f, x, acc, hx, h64 => by
    have step : ∀ n : Int, 0 ≤ n → n * 10 + ((x % 10 : Nat) : Int) ≤ 18446744073709551615 → num 10 (dch x :: acc) n = num 10 acc (n * 10 + ((x % 10 : Nat) : Int)) := by
      intro n hn h
      rw [num, (dch_wd x).2, if_neg (by omega)]
    by_cases h : x / 10 = 0
    · rw [pd, if_pos h, step 0 (by omega) (by omega)]
      congr 1
      omega
    · obtain _ | f := f
      · exact absurd hx (by omega)
      · rw [pd, if_neg h, num_pd f (x / 10) _ (by rw [Nat.pow_succ] at hx; omega) (by omega), step _ (by omega) (by omega)]
        congr 1
        omega
theorem pd_len : ∀ (f x : Nat) (acc : List UInt8), (pd f x acc).length ≤ acc.length + f
  | 0, x, acc => by simp [pd]
  | f + 1, x, acc => by
    rw [pd]
    split
    · simp
    · have := pd_len f (x / 10) (dch x :: acc)
      simp only [List.length_cons] at this
      omega
theorem number_pd {x : Nat} (h : x < 18446744073709551616) : number (pd 20 x []) = ((x : Int), true) := by
  have hn := num_pd 19 x [] (by omega) h
  have hz : nres 10 (pd 20 x []) = ((x : Int), true) := by
    rw [nres, hn, num]
    simp [pd_ne 19 x []]
  by_cases h0 : x = 0
  · subst h0
    rfl
  · obtain ⟨y, t, h1, h2, e⟩ := pd_head 19 x [] (by omega) (by omega)
    have hg : List.getD (pd 20 x []) 0 0 = dch y := by rw [e]; rfl
    have hd := (dch_wd y).1
    have hne : ¬ ((List.getD (pd 20 x []) 0 0).toNat : Int) = 48 := by rw [hg, hd]; omega
    rw [number, if_neg (fun h => hne h.2.1), if_neg (fun h => hne h.2), hz]
theorem backs_ok (b more : List UInt8) {n : Int} (w : 0 ≤ n ∧ n ≤ 18446744073709551615) : glossarylaw04_QuoteBack b more n = .ok true := by
  obtain ⟨x, rfl⟩ : ∃ x : Nat, n = (x : Int) := ⟨n.toNat, by omega⟩
  unfold glossarylaw04_QuoteBack
  rw [awake_ok, R.bind_ok, if_pos rfl]
  by_cases h : (500 : Int) < (b.length : Int)
  · rw [if_pos h, R.bind_ok, if_pos rfl]
  · rw [if_neg h, R.bind_ok]
    by_cases h' : (100 : Int) < (more.length : Int)
    · rw [if_pos (decide_eq_true h')]
    · have hq := qt_len b
      have hp := pd_len 20 x []
      have hlen : ((pd 20 x []).length) ≤ 1000 := by simp only [List.length_nil] at hp; omega
      rw [if_neg (by simp only [decide_eq_true_eq]; exact h'), text_ok (by omega), R.bind_ok, if_pos (by omega), back_ok (by omega) (by omega), R.bind_ok, digits_ok (by omega), R.bind_ok, number_ok hlen, R.bind_ok, number_pd (by omega)]
      simp [R.bind_ok]
theorem back_law (b more : List UInt8) (n : Int) (w : (Lit.int .u64 n).wf = true) : CA qprim 9 [.sl 1 (b.map byteV), .str more, .int .u64 n] [] fun r _ => r = .ret (.bool true) :=
  glossarylaw04_QuoteBack_call (KK := fun r => r = true) (X := fun _ => False) (by rw [backs_ok b more (by have := w; simp [Lit.wf, IntKind.bits, IntKind.signed, IntKind.min, IntKind.max] at this; omega)]; exact rfl) (fun r hr => by rw [hr]) (fun v hv => hv.elim)
theorem cuts_ok {b : List UInt8} (hb : b.length ≤ 1048576) (n : Int) : glossarylaw04_QuoteCuts b n = .ok true := by
  unfold glossarylaw04_QuoteCuts
  have hq := qt_len b
  rw [awake_ok, R.bind_ok, if_pos rfl, text_ok (by omega), R.bind_ok]
  by_cases h : (500 : Int) < (b.length : Int)
  · rw [if_pos h, R.bind_ok, if_pos rfl]
  · rw [if_neg h]
    by_cases h1 : n < 1
    · rw [if_pos h1, R.bind_ok, if_pos rfl]
    · rw [if_neg h1, R.bind_ok]
      by_cases h2 : ((qt b).length : Int) ≤ n
      · rw [if_pos (decide_eq_true h2)]
      · obtain ⟨x, rfl⟩ : ∃ x : Nat, n = (x : Int) := ⟨n.toNat, by omega⟩
        obtain ⟨p, hp, ht⟩ := cut_ok (b := b) (by omega) (n := x) (by omega) (by omega)
        rw [if_neg (by simp only [decide_eq_true_eq]; exact h2), if_pos (by omega), Int.toNat_natCast, ht, R.bind_ok]
        dsimp only
        simpa [R.bind_ok] using hp
theorem cuts_law (b : List UInt8) (hb : b.length ≤ 1048576) (n : Int) (w : (Lit.int .i64 n).wf = true) : CA qprim 7 [.sl 1 (b.map byteV), .int .i64 n] [] fun r _ => r = .ret (.bool true) :=
  glossarylaw04_QuoteCuts_call (KK := fun r => r = true) (X := fun _ => False) (by rw [cuts_ok hb n]; exact rfl) (fun r hr => by rw [hr]) (fun v hv => hv.elim)
end Go.Proofs.Ytgbgnglngpbehaa.Pv
