/- The law of defaults: both tell the same of a worth that stands for a default. -/
import Derived.Test.YtiigffdmjdooeaaGreatDoorLD
set_option linter.unusedVariables false
set_option linter.unusedSimpArgs false
set_option maxRecDepth 20000
namespace Go.Proofs.YtiigffdmjdooeaaGreatDoor.Pv
open Go Go.Proofs

/-- The kinds of whole numbers: bits, sign, the most, the least. -/
def four (b : Int) (sg : Bool) (ab be : Int) : Prop :=
  (b = 32 ∧ sg = true ∧ ab = 2147483647 ∧ be = 2147483648) ∨ (b = 64 ∧ sg = true ∧ ab = 9223372036854775807 ∧ be = 9223372036854775808) ∨ (b = 32 ∧ sg = false ∧ ab = 4294967295 ∧ be = 0) ∨ (b = 64 ∧ sg = false ∧ ab = 18446744073709551615 ∧ be = 0)
theorem kinds_some {t : Int} (h : t = 5 ∨ t = 17 ∨ t = 15 ∨ t = 3 ∨ t = 18 ∨ t = 16 ∨ t = 13 ∨ t = 7 ∨ t = 4 ∨ t = 6) : ∃ b sg ab be, four b sg ab be ∧ lower_Bounds t = .ok (ab, be) ∧ glossaryref13_Bits t = .ok (b, sg) := by
  rcases h with rfl | rfl | rfl | rfl | rfl | rfl | rfl | rfl | rfl | rfl
  · exact ⟨32, true, _, _, .inl ⟨rfl, rfl, rfl, rfl⟩, rfl, rfl⟩
  · exact ⟨32, true, _, _, .inl ⟨rfl, rfl, rfl, rfl⟩, rfl, rfl⟩
  · exact ⟨32, true, _, _, .inl ⟨rfl, rfl, rfl, rfl⟩, rfl, rfl⟩
  · exact ⟨64, true, _, _, .inr (.inl ⟨rfl, rfl, rfl, rfl⟩), rfl, rfl⟩
  · exact ⟨64, true, _, _, .inr (.inl ⟨rfl, rfl, rfl, rfl⟩), rfl, rfl⟩
  · exact ⟨64, true, _, _, .inr (.inl ⟨rfl, rfl, rfl, rfl⟩), rfl, rfl⟩
  · exact ⟨32, false, _, _, .inr (.inr (.inl ⟨rfl, rfl, rfl, rfl⟩)), rfl, rfl⟩
  · exact ⟨32, false, _, _, .inr (.inr (.inl ⟨rfl, rfl, rfl, rfl⟩)), rfl, rfl⟩
  · exact ⟨64, false, _, _, .inr (.inr (.inr ⟨rfl, rfl, rfl, rfl⟩)), rfl, rfl⟩
  · exact ⟨64, false, _, _, .inr (.inr (.inr ⟨rfl, rfl, rfl, rfl⟩)), rfl, rfl⟩
theorem kinds_none {t : Int} (h : ¬ (t = 5 ∨ t = 17 ∨ t = 15 ∨ t = 3 ∨ t = 18 ∨ t = 16 ∨ t = 13 ∨ t = 7 ∨ t = 4 ∨ t = 6)) : lower_Bounds t = .ok (0, 0) ∧ glossaryref13_Bits t = .ok (0, false) := by
  simp only [not_or] at h
  obtain ⟨h1, h2, h3, h4, h5, h6, h7, h8, h9, h10⟩ := h
  constructor
  · simp [lower_Bounds, lower_Bounds_j3, lower_Bounds_j2, lower_Bounds_j1, lower_Bounds_j0, h1, h2, h3, h4, h5, h6, h7, h8, h9, h10]
  · simp [glossaryref13_Bits, glossaryref13_Bits_j3, glossaryref13_Bits_j2, glossaryref13_Bits_j1, glossaryref13_Bits_j0, h1, h2, h3, h4, h5, h6, h7, h8, h9, h10]
/-- Whether a text's number fits. -/
def fits (i : Int × Bool × Bool) (ab be : Int) : Bool := i.2.2 && (if i.2.1 = true then decide (i.1 ≤ be) else decide (i.1 ≤ ab))
theorem whole_some {t ab be : Int} {s : List UInt8} {i : Int × Bool × Bool} (hB : lower_Bounds t = .ok (ab, be)) (hI : node_Int s = .ok i) (ha : ab ≠ 0) : ∃ v, lower_Whole t s = .ok (v, fits i ab be) := by
  obtain ⟨n, m, y⟩ := i
  unfold lower_Whole fits
  rw [hB, R.bind_ok, hI, R.bind_ok]
  cases y
  · exact ⟨0, by simp⟩
  · cases m
    · exact ⟨n, by simp [ha]⟩
    · exact ⟨IntKind.wrap .u64 (0 - n), by simp [ha]⟩
theorem whole_none {t be : Int} {s : List UInt8} {i : Int × Bool × Bool} (hB : lower_Bounds t = .ok (0, be)) (hI : node_Int s = .ok i) : lower_Whole t s = .ok (0, false) := by
  obtain ⟨n, m, y⟩ := i
  unfold lower_Whole
  rw [hB, R.bind_ok, hI, R.bind_ok]
  cases y <;> simp
theorem top32s : IntKind.wrap .u64 ((IntKind.wrap .u64 (1 * 2 ^ (min (Int.toNat (IntKind.wrap .u64 (IntKind.wrap .i64 ((32 : Int) - 1)))) 64))) - 1) = 2147483647 := by decide +kernel
theorem top64s : IntKind.wrap .u64 ((IntKind.wrap .u64 (1 * 2 ^ (min (Int.toNat (IntKind.wrap .u64 (IntKind.wrap .i64 ((64 : Int) - 1)))) 64))) - 1) = 9223372036854775807 := by decide +kernel
theorem within_some {t b ab be : Int} {sg : Bool} {s : List UInt8} {i : Int × Bool × Bool} (h4 : four b sg ab be) (hB : glossaryref13_Bits t = .ok (b, sg)) (hI : glossaryref07_Int s = .ok i) (h0 : 0 ≤ i.1) (hm : i.2.2 = true → i.2.1 = true → i.1 ≠ 0) : ∃ v, glossaryref13_Within t s = .ok (v, fits i ab be) := by
  obtain ⟨n, m, y⟩ := i
  simp only at h0 hm
  unfold glossaryref13_Within glossaryref13_Within_j0 fits
  rw [hB, R.bind_ok, hI, R.bind_ok]
  simp only
  have w1 : 0 ≤ IntKind.wrap .u64 (IntKind.wrap .i64 ((32 : Int) - 1)) := by decide +kernel
  have w2 : 0 ≤ IntKind.wrap .u64 (IntKind.wrap .i64 ((64 : Int) - 1)) := by decide +kernel
  have e1 : IntKind.wrap .u64 ((IntKind.wrap .u64 (2 * (2147483647 : Int))) + 1) = 4294967295 := by decide +kernel
  have e2 : IntKind.wrap .u64 ((IntKind.wrap .u64 (2 * (9223372036854775807 : Int))) + 1) = 18446744073709551615 := by decide +kernel
  have e3 : IntKind.wrap .u64 ((2147483647 : Int) + 1) = 2147483648 := by decide +kernel
  have e4 : IntKind.wrap .u64 ((9223372036854775807 : Int) + 1) = 9223372036854775808 := by decide +kernel
  rcases h4 with ⟨rfl, rfl, rfl, rfl⟩ | ⟨rfl, rfl, rfl, rfl⟩ | ⟨rfl, rfl, rfl, rfl⟩ | ⟨rfl, rfl, rfl, rfl⟩
  · rw [if_neg (by decide : ¬ (32 : Int) = 0)]
    cases y
    · exact ⟨0, by simp⟩
    · cases m
      · exact ⟨n, by simp only [Bool.false_eq_true, if_false, if_true, R.bind_ok, if_pos w1, top32s]; simp⟩
      · exact ⟨IntKind.wrap .u64 (0 - n), by simp only [Bool.false_eq_true, if_false, if_true, R.bind_ok, if_pos w1, top32s, e3, Bool.not_true]; simp⟩
  · rw [if_neg (by decide : ¬ (64 : Int) = 0)]
    cases y
    · exact ⟨0, by simp⟩
    · cases m
      · exact ⟨n, by simp only [Bool.false_eq_true, if_false, if_true, R.bind_ok, if_pos w2, top64s]; simp⟩
      · exact ⟨IntKind.wrap .u64 (0 - n), by simp only [Bool.false_eq_true, if_false, if_true, R.bind_ok, if_pos w2, top64s, e4, Bool.not_true]; simp⟩
  · rw [if_neg (by decide : ¬ (32 : Int) = 0)]
    cases y
    · exact ⟨0, by simp⟩
    · cases m
      · exact ⟨n, by simp only [Bool.false_eq_true, if_false, if_true, R.bind_ok, if_pos w1, top32s, e1]; simp⟩
      · have hn := hm rfl rfl
        exact ⟨0, by simp only [Bool.false_eq_true, if_false, if_true, R.bind_ok, Bool.not_false]; rw [decide_eq_false (by omega : ¬ n ≤ 0)]; simp⟩
  · rw [if_neg (by decide : ¬ (64 : Int) = 0)]
    cases y
    · exact ⟨0, by simp⟩
    · cases m
      · exact ⟨n, by simp only [Bool.false_eq_true, if_false, if_true, R.bind_ok, if_pos w2, top64s, e2]; simp⟩
      · have hn := hm rfl rfl
        exact ⟨0, by simp only [Bool.false_eq_true, if_false, if_true, R.bind_ok, Bool.not_false]; rw [decide_eq_false (by omega : ¬ n ≤ 0)]; simp⟩
theorem judge_range (d : List UInt8) (m : Bool) (l : List UInt8) : 0 ≤ (judge d m l).1 ∧ ((judge d m l).2.2 = true → (judge d m l).2.1 = true → (judge d m l).1 ≠ 0) := by
  unfold judge
  have hr := number_range d
  split
  · rename_i h
    refine ⟨hr.1, fun _ hm h0 => h.2.2 ⟨hm, .inl h0⟩⟩
  · exact ⟨Int.le_refl _, fun h => by cases h⟩
theorem ints_judged (s : List UInt8) (hl : s.length ≤ 2000) : ∃ r, node_Int s = .ok r ∧ glossaryref07_Int s = .ok r ∧ 0 ≤ r.1 ∧ (r.2.2 = true → r.2.1 = true → r.1 ≠ 0) := by
  obtain ⟨r, h1, h2⟩ := ints_both s hl
  refine ⟨r, h1, h2, ?_⟩
  cases s with
  | nil =>
    obtain ⟨l, k1, k2⟩ := digits_both (number_range [])
    have := int_ok (s := []) (d := []) (minus := false) (by rfl) (by simp) k1
    rw [h1] at this
    injection this with e
    rw [e]
    exact judge_range _ _ _
  | cons c q =>
    by_cases hc : c = 45
    · subst hc
      obtain ⟨l, k1, k2⟩ := digits_both (number_range q)
      have := int_ok (cut_minus q) (by simp at hl; omega) k1
      rw [h1] at this
      injection this with e
      rw [e]
      exact judge_range _ _ _
    · obtain ⟨l, k1, k2⟩ := digits_both (number_range (c :: q))
      have := int_ok (cut_none q hc) (by omega) k1
      rw [h1] at this
      injection this with e
      rw [e]
      exact judge_range _ _ _
theorem default_both (t : Int) (x : Nd) (hl : x.Text.length ≤ 2000) : ∃ r, lower_Default t x = .ok r ∧ glossaryref13_Default t x = .ok r := by
  obtain ⟨i, h1, h2, h3, h4⟩ := ints_judged x.Text hl
  by_cases hk : t = 5 ∨ t = 17 ∨ t = 15 ∨ t = 3 ∨ t = 18 ∨ t = 16 ∨ t = 13 ∨ t = 7 ∨ t = 4 ∨ t = 6
  · obtain ⟨b, sg, ab, be, k4, kB, kb⟩ := kinds_some hk
    have hb : 0 < b ∧ ab ≠ 0 := by rcases k4 with ⟨rfl, _, rfl, _⟩ | ⟨rfl, _, rfl, _⟩ | ⟨rfl, _, rfl, _⟩ | ⟨rfl, _, rfl, _⟩ <;> decide
    obtain ⟨v, hv⟩ := whole_some kB h1 hb.2
    obtain ⟨u, hu⟩ := within_some k4 kb h2 h3 h4
    have n0 : t ≠ 0 := by omega
    have n8 : t ≠ 8 := by omega
    have n9 : t ≠ 9 := by omega
    have n12 : t ≠ 12 := by omega
    unfold lower_Default glossaryref13_Default lower_Default_j0
    rw [hv, kb, hu]
    simp only [R.bind_ok, if_pos hb.1, if_neg n0, if_neg n8, if_neg n9, if_neg n12, Bool.false_eq_true, if_false, decide_eq_true_eq, n12, decide_false]
    by_cases e20 : x.Kind = 20
    · simp only [if_pos e20]
      by_cases hf : fits i ab be = true
      · exact ⟨_, by rw [if_pos hf], by rw [if_pos hf]⟩
      · exact ⟨_, by rw [if_neg hf], by rw [if_neg hf]⟩
    · simp only [if_neg e20]
      by_cases e21 : x.Kind = 21
      · exact ⟨_, by rw [if_pos e21], rfl⟩
      · by_cases e22 : x.Kind = 22
        · exact ⟨_, by rw [if_neg e21, if_pos e22], rfl⟩
        · exact ⟨_, by rw [if_neg e21, if_neg e22], rfl⟩
  · obtain ⟨kB, kb⟩ := kinds_none hk
    have hv := whole_none kB h1
    unfold lower_Default glossaryref13_Default lower_Default_j0
    rw [hv, kb]
    simp only [R.bind_ok, if_neg (by decide : ¬ (0 : Int) < 0), Bool.false_eq_true, if_false, decide_eq_true_eq]
    by_cases e20 : x.Kind = 20
    · have e21 : x.Kind ≠ 21 := by omega
      have e22 : x.Kind ≠ 22 := by omega
      simp [e20]
    · by_cases e21 : x.Kind = 21
      · by_cases n0 : t = 0
        · subst n0; simp [e21]
        · by_cases n8 : t = 8
          · subst n8
            by_cases ht : x.Text = [116, 114, 117, 101]
            · simp [e21, ht]
            · by_cases hf : x.Text = [102, 97, 108, 115, 101]
              · simp [e21, hf]
              · simp [e21, ht, hf]
          · simp [e21, n0, n8]
      · by_cases e22 : x.Kind = 22
        · by_cases n9 : t = 9
          · subst n9; simp [e22]
          · by_cases n12 : t = 12
            · subst n12; simp [e22]
            · simp [e22, n9, n12]
        · simp [e20, e21, e22]
theorem defaults_law (t : Int) (x : Nd) (ho : x.Ok) : glossarylaw13_LowerDefaults t x = .ok true := by
  unfold glossarylaw13_LowerDefaults awakeX
  rw [R.bind_ok, if_pos rfl]
  obtain ⟨b, h1, h2⟩ := few_ok ho
  rw [h1, R.bind_ok]
  cases b
  · rfl
  · obtain ⟨r, k1, k2⟩ := default_both t x (h2 rfl).2.2.1
    rw [if_pos rfl, k1, R.bind_ok, k2, R.bind_ok, if_pos rfl]
    simp
theorem lowerDefaults_law {P : Prop} (x0 : Int) (_ : P) (x1 : Nd) (ho : x1.Ok) : CA qprim 4 [.int .i64 x0, .agg [.int .i64 x1.Kind, .str x1.Text, .int .i64 x1.N, .int .i64 x1.M, .int .i64 x1.A, .int .i64 x1.At, .str x1.Doc, .sl 8 (List.map S_api_Node.enc x1.Kids)]] [] fun r _ => r = .ret (.bool true) :=
  glossarylaw13_LowerDefaults_call (KK := fun r => r = true) (X := fun _ => False) (by rw [defaults_law x0 x1 ho]; exact rfl) (fun r h => by rw [h]) (fun v h => h.elim)
end Go.Proofs.YtiigffdmjdooeaaGreatDoor.Pv
