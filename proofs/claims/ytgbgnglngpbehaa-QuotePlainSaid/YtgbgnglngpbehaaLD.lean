/- The law on plain texts, as a plain function. -/
import Derived.Test.YtgbgnglngpbehaaG14
import Derived.Test.YtgbgnglngpbehaaLB
set_option linter.unusedVariables false
set_option linter.unusedSimpArgs false
set_option maxRecDepth 20000
namespace Go.Proofs.Ytgbgnglngpbehaa.Pv
open Go Go.Proofs

theorem qe_tab : ∀ i : Fin 256, (qe (UInt8.ofNat i.val)).all (fun x => decide (32 ≤ x.toNat) && decide (x.toNat ≤ 126)) = true := by decide +kernel
theorem qe_plain (c : UInt8) : ∀ x ∈ qe c, 32 ≤ x.toNat ∧ x.toNat ≤ 126 := by
  have h := bytes_all (p := fun c => (qe c).all (fun x => decide (32 ≤ x.toNat) && decide (x.toNat ≤ 126)) = true) qe_tab c
  intro x hx
  have := List.all_eq_true.1 h x hx
  simpa using this
theorem qt_plain (b : List UInt8) : ∀ x ∈ qt b, 32 ≤ x.toNat ∧ x.toNat ≤ 126 := by
  intro x hx
  unfold qt at hx
  simp only [List.mem_cons, List.mem_append, List.mem_flatMap, List.not_mem_nil, or_false] at hx
  rcases hx with rfl | ⟨c, _, hc⟩ | rfl
  · decide
  · exact qe_plain c x hc
  · decide
theorem qt_len (b : List UInt8) : (qt b).length ≤ 4 * b.length + 2 := by
  have := flat_len4 b
  simp only [qt, List.length_cons, List.length_append, List.length_nil]
  omega
theorem plain_loop {s : List UInt8} (hl : s.length ≤ 10000) (hs : ∀ x ∈ s, 32 ≤ x.toNat ∧ x.toNat ≤ 126) : ∀ (d k i : Nat), i + d = s.length → d < k → glossarylaw04_QuotePlain_l1 s k (i : Int) = .ok (.inl ())
  | 0, k, i, hi, hk => by
    obtain ⟨k, rfl⟩ : ∃ m, k = m + 1 := ⟨k - 1, by omega⟩
    rw [glossarylaw04_QuotePlain_l1, if_neg (by omega)]
  | d + 1, k, i, hi, hk => by
    obtain ⟨k, rfl⟩ : ∃ m, k = m + 1 := ⟨k - 1, by omega⟩
    have hlt : i < s.length := by omega
    obtain ⟨h1, h2⟩ := hs s[i] (List.getElem_mem hlt)
    have hg : List.getD s (Int.toNat (i : Int)) 0 = s[i] := getD_at hlt
    rw [glossarylaw04_QuotePlain_l1, if_pos (by omega), if_pos (by omega), hg, if_neg (by omega), if_pos (by omega), R.bind_ok, if_neg (by simp; omega), next64 (by omega)]
    exact plain_loop hl hs d k (i + 1) (by omega) (by omega)
theorem plain_ok (b : List UInt8) : glossarylaw04_QuotePlain b = .ok true := by
  unfold glossarylaw04_QuotePlain
  rw [awake_ok, R.bind_ok, if_pos rfl]
  by_cases h : (500 : Int) < (b.length : Int)
  · rw [if_pos h]
  · have hq := qt_len b
    have hp := plain_loop (s := qt b) (by omega) (qt_plain b) (qt b).length Many 0 (by omega) (many_gt (by omega))
    simp only [Int.cast_ofNat_Int, Int.natCast_zero] at hp
    rw [if_neg h, text_ok (by omega), R.bind_ok, hp, R.bind_ok]
    simp only [glossarylaw04_QuotePlain_j0]
    have hlen : (qt b).length = (b.flatMap qe).length + 2 := by simp only [qt, List.length_cons, List.length_append, List.length_nil]
    have h0 : List.getD (qt b) 0 0 = 34 := rfl
    have hw : IntKind.wrap .i64 (((qt b).length : Int) - 1) = (((b.flatMap qe).length + 1 : Nat) : Int) := by rw [wrap64 (by omega)]; omega
    have hl : List.getD (qt b) (Int.toNat (((b.flatMap qe).length + 1 : Nat) : Int)) 0 = 34 := by
      simp only [Int.toNat_natCast, qt]
      simp [List.getD]
    rw [hw, hl, h0, if_pos (by omega), if_pos (by omega), if_pos (by decide), if_pos (by omega)]
    simp
theorem plain_law (b : List UInt8) : CA qprim 6 [.sl 1 (b.map byteV)] [] fun r _ => r = .ret (.bool true) :=
  glossarylaw04_QuotePlain_call (KK := fun r => r = true) (X := fun _ => False) (by rw [plain_ok]; exact rfl) (fun r hr => by rw [hr]) (fun v hv => hv.elim)
end Go.Proofs.Ytgbgnglngpbehaa.Pv
