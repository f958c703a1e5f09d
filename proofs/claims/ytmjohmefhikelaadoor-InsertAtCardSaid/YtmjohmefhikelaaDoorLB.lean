/- .. and what the reference's At comes to. -/
import Derived.Test.YtmjohmefhikelaaDoorLA
set_option linter.unusedVariables false
set_option linter.unusedSimpArgs false
set_option maxRecDepth 100000
namespace Go.Proofs.YtmjohmefhikelaaDoor.Pv
open Go Go.Proofs
theorem linesGo_fuel : ∀ (k k' : Nat) (s : List UInt8), s.length ≤ k → s.length ≤ k' → linesGo k s = linesGo k' s
  | 0, k', s, h, h' => by
    have : s = [] := List.eq_nil_of_length_eq_zero (by omega)
    subst this
    cases k' <;> rfl
  | k + 1, k', s, h, h' => by
    by_cases hs : s = []
    · subst hs; cases k' <;> rfl
    · have hpos : 0 < s.length := List.length_pos_iff.2 hs
      obtain ⟨j, rfl⟩ : ∃ j, k' = j + 1 := ⟨k' - 1, by omega⟩
      have hdl : (s.drop ((Lib.indexByte s 10).toNat + 1)).length = s.length - ((Lib.indexByte s 10).toNat + 1) := List.length_drop
      simp only [linesGo]
      rw [linesGo_fuel k j (s.drop ((Lib.indexByte s 10).toNat + 1)) (by omega) (by omega)]
theorem idx_none : ∀ (l : List UInt8), (∀ b ∈ l, b ≠ 10) → Lib.indexByte l 10 = -1
  | [], _ => rfl
  | b :: l, h => by
    unfold Lib.indexByte
    rw [if_neg (by have := h b (by simp); simpa using this), idx_none l fun c hc => h c (by simp [hc])]
    rfl
theorem idx_at : ∀ (a r : List UInt8), (∀ b ∈ a, b ≠ 10) → Lib.indexByte (a ++ 10 :: r) 10 = a.length
  | [], r, _ => rfl
  | b :: a, r, h => by
    rw [List.cons_append]
    unfold Lib.indexByte
    rw [if_neg (by have := h b (by simp); simpa using this), idx_at a r fun c hc => h c (by simp [hc])]
    rw [if_neg (by simp)]
    simp
theorem LN_nil : LN [] = [] := rfl
theorem LN_none {s : List UInt8} (hs : s ≠ []) (h : ∀ b ∈ s, b ≠ 10) : LN s = [s] := by
  have hpos : 0 < s.length := List.length_pos_iff.2 hs
  obtain ⟨n, hn⟩ : ∃ n, s.length = n + 1 := ⟨s.length - 1, by omega⟩
  unfold LN linesP
  rw [hn, linesGo, if_neg hs, idx_none s h, if_pos (by decide)]
  rfl
theorem LN_cut {a r : List UInt8} (h : ∀ b ∈ a, b ≠ 10) : LN (a ++ 10 :: r) = (a ++ [10]) :: LN r := by
  unfold LN linesP
  have hl : (a ++ 10 :: r).length = (a.length + r.length) + 1 := by simp; omega
  rw [hl, linesGo, if_neg (by simp), idx_at a r h, if_neg (by omega)]
  have e1 : (a ++ 10 :: r).take ((a.length : Int).toNat + 1) = a ++ [10] := by
    rw [Int.toNat_natCast, List.take_append, List.take_of_length_le (by omega)]
    simp
  have e2 : (a ++ 10 :: r).drop ((a.length : Int).toNat + 1) = r := by
    rw [Int.toNat_natCast, List.drop_append, List.drop_eq_nil_of_le (by omega)]
    simp
  rw [e1, e2, List.map_cons, linesGo_fuel (a.length + r.length) r.length r (by omega) (Nat.le_refl _)]
theorem byte10 (b : UInt8) : ((b.toNat : Int) = 10) ↔ b = 10 := by
  constructor
  · intro h; apply UInt8.toNat_inj.1; have : b.toNat = 10 := by omega
    rw [this]; rfl
  · rintro rfl; rfl
theorem lines_loop (x : List UInt8) (hx : x.length ≤ 1000) : ∀ (k : Nat) (acc : List (List UInt8)) (f i : Nat), f ≤ i → i ≤ x.length → x.length - i < k → (∀ b ∈ (x.drop f).take (i - f), b ≠ 10) → acc.length + (x.length - f) ≤ 2000 →
    ∃ (a : List (List UInt8)) (g : Nat), glossaryref27_lines_l1 x k acc (f : Int) (i : Int) = .ok (a, (g : Int)) ∧ g ≤ x.length ∧ (if g < x.length then a ++ [x.drop g] else a) = acc ++ LN (x.drop f) ∧ a.length ≤ 2000
  | 0, acc, f, i, h1, h2, h3, h4, h5 => by omega
  | k + 1, acc, f, i, h1, h2, h3, h4, h5 => by
    unfold glossaryref27_lines_l1
    by_cases hl : i < x.length
    · rw [if_pos (show (i : Int) < (x.length : Int) by omega), if_pos (show 0 ≤ (i : Int) ∧ (i : Int) < (x.length : Int) by omega), Int.toNat_natCast, getD_at hl]
      have e1 : IntKind.wrap .i64 ((i : Int) + 1) = ((i + 1 : Nat) : Int) := by rw [wrap64 (by omega)]; omega
      have hsp : x.drop f = (x.drop f).take (i - f) ++ x[i] :: x.drop (i + 1) := by
        have e := (List.take_append_drop (i - f) (x.drop f)).symm
        rw [List.drop_drop, show f + (i - f) = i by omega, drop_at hl] at e
        exact e
      by_cases hb : x[i] = 10
      · rw [if_pos ((byte10 _).2 hb), e1, if_pos (by omega), if_pos (by simp; omega)]
        have hpush : List.drop (f : Int).toNat (List.take ((i + 1 : Nat) : Int).toNat x) = (x.drop f).take (i - f) ++ [10] := by
          rw [Int.toNat_natCast, Int.toNat_natCast, List.drop_take]
          rw [hb] at hsp
          conv => lhs; rw [hsp]
          rw [List.take_append, List.take_of_length_le (by simp; omega)]
          congr 1
          rw [List.length_take, List.length_drop, show i + 1 - f - min (i - f) (x.length - f) = 1 by omega]
          rfl
        rw [hpush]
        obtain ⟨a, g, g1, g2, g3, g4⟩ := lines_loop x hx k (acc ++ [(x.drop f).take (i - f) ++ [10]]) (i + 1) (i + 1) (Nat.le_refl _) (by omega) (by omega) (by simp) (by simp; omega)
        refine ⟨a, g, g1, g2, ?_, g4⟩
        rw [g3]
        rw [hb] at hsp
        conv => rhs; rw [hsp]
        rw [LN_cut h4]
        simp
      · rw [if_neg (fun e => hb ((byte10 _).1 e)), e1]
        refine lines_loop x hx k acc f (i + 1) (by omega) (by omega) (by omega) (fun b hb' => ?_) h5
        have e2 : (x.drop f).take (i + 1 - f) = (x.drop f).take (i - f) ++ [x[i]] := by
          rw [show i + 1 - f = (i - f) + 1 by omega, List.take_add_one]
          congr 1
          rw [List.getElem?_drop, show f + (i - f) = i by omega, List.getElem?_eq_getElem hl]
          rfl
        rw [e2] at hb'
        rcases List.mem_append.1 hb' with h | h
        · exact h4 b h
        · simp at h; subst h; exact hb
    · rw [if_neg (show ¬ (i : Int) < (x.length : Int) by omega)]
      have hi : i = x.length := by omega
      subst hi
      refine ⟨acc, f, rfl, by omega, ?_, by omega⟩
      have hall : ∀ b ∈ x.drop f, b ≠ 10 := by
        intro b hb'
        refine h4 b ?_
        rw [List.take_of_length_le (by simp)]; exact hb'
      by_cases hf : f < x.length
      · rw [if_pos hf, LN_none (fun e => by have := congrArg List.length e; simp at this; omega) hall]
      · rw [if_neg hf, List.drop_eq_nil_of_le (by omega), LN_nil, List.append_nil]
theorem rlines_ok (x : List UInt8) (hx : x.length ≤ 1000) : glossaryref27_lines x = .ok (LN x) := by
  obtain ⟨a, g, h1, h2, h3, h4⟩ := lines_loop x hx Many [] 0 0 (Nat.le_refl _) (Nat.zero_le _) (by unfold Many; omega) (by simp) (by simp; omega)
  have h1' : glossaryref27_lines_l1 x Many [] 0 0 = .ok (a, (g : Int)) := h1
  unfold glossaryref27_lines glossaryref27_lines_j0
  rw [h1', R.bind_ok]
  simp only [Int.toNat_natCast]
  rw [List.drop_zero, List.nil_append] at h3
  by_cases hg : g < x.length
  · rw [if_pos hg] at h3
    rw [if_pos (by omega), if_pos (by omega), if_pos (by simp; omega), h3]
  · rw [if_neg hg] at h3
    rw [if_neg (by omega), h3]
theorem contains_nil (m : List UInt8) (hm : m ≠ []) : Lib.contains [] m = false := by
  cases m with
  | nil => exact absurd rfl hm
  | cons => rfl
theorem contains_cons (b : UInt8) (l m : List UInt8) : Lib.contains (b :: l) m = (m.isPrefixOf (b :: l) || Lib.contains l m) := by
  unfold Lib.contains
  rw [Lib.index]
  have := Lib.index_ge l m
  by_cases h : m.isPrefixOf (b :: l) = true
  · rw [if_pos h, h]; rfl
  · rw [if_neg h]
    have hf : m.isPrefixOf (b :: l) = false := by rw [Bool.eq_false_iff]; exact h
    rw [hf, Bool.false_or]
    by_cases h2 : Lib.index l m = -1
    · simp [h2]
    · rw [if_neg (by simpa using h2)]
      rw [decide_eq_decide]
      omega
theorem contains_short : ∀ (l m : List UInt8), l.length < m.length → Lib.contains l m = false
  | [], m, h => contains_nil m (fun e => by subst e; simp at h)
  | b :: l, m, h => by
    rw [contains_cons, contains_short l m (by simp at h; omega), Bool.or_false]
    rw [Bool.eq_false_iff]
    intro hp
    have := List.IsPrefix.length_le (List.isPrefixOf_iff_prefix.1 hp)
    omega
theorem in_loop (x m : List UInt8) (hm : m ≠ []) (hx : x.length ≤ 1000) (hml : m.length ≤ 1000) : ∀ (k i : Nat), i ≤ x.length → x.length - i < k →
    glossaryref27_in_l1 x m k (i : Int) = .ok (if Lib.contains (x.drop i) m = true then .inr true else .inl ())
  | 0, i, h1, h2 => by omega
  | k + 1, i, h1, h2 => by
    have hpos : 0 < m.length := List.length_pos_iff.2 hm
    unfold glossaryref27_in_l1
    have e1 : IntKind.wrap .i64 ((i : Int) + (m.length : Int)) = ((i + m.length : Nat) : Int) := by rw [wrap64 (by omega)]; omega
    simp only [e1]
    by_cases h : i + m.length ≤ x.length
    · rw [if_pos (by omega), if_pos (by omega), Int.toNat_natCast, Int.toNat_natCast]
      have hl : i < x.length := by omega
      have ed : List.drop i (List.take (i + m.length) x) = (x.drop i).take m.length := by rw [List.drop_take, show i + m.length - i = m.length by omega]
      rw [ed, drop_at hl, contains_cons, ← drop_at hl]
      have hp : ((x.drop i).take m.length = m) ↔ m.isPrefixOf (x.drop i) = true := by
        rw [List.isPrefixOf_iff_prefix, List.prefix_iff_eq_take]
        exact eq_comm
      by_cases hc : (x.drop i).take m.length = m
      · rw [if_pos hc, hp.1 hc]; rfl
      · rw [if_neg hc, show m.isPrefixOf (x.drop i) = false from by rw [Bool.eq_false_iff]; exact fun e => hc (hp.2 e), Bool.false_or]
        have e2 : IntKind.wrap .i64 ((i : Int) + 1) = ((i + 1 : Nat) : Int) := by rw [wrap64 (by omega)]; omega
        rw [e2]
        exact in_loop x m hm hx hml k (i + 1) (by omega) (by omega)
    · rw [if_neg (by omega), contains_short _ m (by simp; omega)]
      rfl
theorem in_ok (x m : List UInt8) (hm : m ≠ []) (hx : x.length ≤ 1000) (hml : m.length ≤ 1000) : glossaryref27_in x m = .ok (Lib.contains x m) := by
  have h : glossaryref27_in_l1 x m Many 0 = .ok (if Lib.contains (x.drop 0) m = true then .inr true else .inl ()) := in_loop x m hm hx hml Many 0 (Nat.zero_le _) (by unfold Many; omega)
  unfold glossaryref27_in
  rw [h, R.bind_ok, List.drop_zero]
  cases Lib.contains x m <;> rfl
theorem ws_eq (b : UInt8) : ws b = true ↔ ((b.toNat : Int) = 32 ∨ (b.toNat : Int) = 9) := by
  have h : ∀ i : Fin 256, decide (ws (UInt8.ofNat i.val) = true) = decide (((UInt8.ofNat i.val).toNat : Int) = 32 ∨ ((UInt8.ofNat i.val).toNat : Int) = 9) := by decide +kernel
  have := h ⟨b.toNat, b.toNat_lt⟩
  simp only [UInt8.ofNat_toNat] at this
  exact decide_eq_decide.1 this
theorem rbl_loop (x : List UInt8) (hx : x.length ≤ 1000) : ∀ (k i : Nat), i ≤ x.length → x.length - i < k → glossaryref27_blanks_l1 x k (i : Int) = .ok ((i + ((x.drop i).takeWhile ws).length : Nat) : Int)
  | 0, i, h1, h2 => by omega
  | k + 1, i, h1, h2 => by
    unfold glossaryref27_blanks_l1
    by_cases hl : i < x.length
    · rw [if_pos (show (i : Int) < (x.length : Int) by omega)]
      simp only [if_pos (show 0 ≤ (i : Int) ∧ (i : Int) < (x.length : Int) by omega), Int.toNat_natCast]
      simp only [getD_at hl]
      rw [drop_at hl]
      have e1 : IntKind.wrap .i64 ((i : Int) + 1) = ((i + 1 : Nat) : Int) := by rw [wrap64 (by omega)]; omega
      have hb : (if (x[i].toNat : Int) = 32 then R.ok true else R.ok (decide ((x[i].toNat : Int) = 9))) = R.ok (ws x[i]) := by
        by_cases h32 : (x[i].toNat : Int) = 32
        · rw [if_pos h32, (ws_eq _).2 (.inl h32)]
        · rw [if_neg h32]
          congr 1
          rw [Bool.eq_iff_iff, decide_eq_true_iff, ws_eq]
          exact ⟨.inr, fun h => h.resolve_left h32⟩
      rw [hb, R.bind_ok]
      by_cases hw : ws x[i] = true
      · rw [if_pos hw, e1, rbl_loop x hx k (i + 1) (by omega) (by omega), List.takeWhile_cons, if_pos hw, List.length_cons]
        congr 2
        omega
      · rw [if_neg hw, List.takeWhile_cons, if_neg hw]
        rfl
    · rw [if_neg (show ¬ (i : Int) < (x.length : Int) by omega), R.bind_ok, if_neg (by decide), List.drop_eq_nil_of_le (by omega)]
      rfl
theorem rbl_ok (x : List UInt8) (hx : x.length ≤ 1000) : glossaryref27_blanks x = .ok (bl x) := by
  have h : glossaryref27_blanks_l1 x Many 0 = .ok ((0 + ((x.drop 0).takeWhile ws).length : Nat) : Int) := rbl_loop x hx Many 0 (Nat.zero_le _) (by unfold Many; omega)
  unfold glossaryref27_blanks glossaryref27_blanks_j0
  rw [h, R.bind_ok, List.drop_zero, Nat.zero_add]
  have hb := bl_len x
  unfold bl at hb ⊢
  rw [if_pos (by omega), Int.toNat_natCast, ← List.prefix_iff_eq_take.1 (List.takeWhile_prefix ws)]
end Go.Proofs.YtmjohmefhikelaaDoor.Pv
