/- A text put in at a point: what the program's At comes to, as a plain function. -/
import Derived.Test.YtmjohmefhikelaaDoorG1
import Derived.Test.YtmjohmefhikelaaDoorG2
import Derived.Test.YtmjohmefhikelaaDoorG3
set_option linter.unusedVariables false
set_option linter.unusedSimpArgs false
set_option maxRecDepth 100000
namespace Go.Proofs.YtmjohmefhikelaaDoor.Pv
open Go Go.Proofs
/-- The lines of a text. -/
def LN (s : List UInt8) : List (List UInt8) := (linesP s).map (·.1)
def ws (b : UInt8) : Bool := [32, 9].contains b
def bl (l : List UInt8) : List UInt8 := l.takeWhile ws
/-- One line of a text that is put in at the line l. -/
def piece (l x : List UInt8) : List UInt8 := (if x = [10] then [] else bl l) ++ (Lib.trimSuffix x [10] ++ [10])
def ins (l t : List UInt8) : List UInt8 := ((LN t).map (piece l)).flatten
def full (m t l : List UInt8) : List UInt8 := (if Lib.contains l m = true then ins l t else []) ++ l
def outAt (c m t : List UInt8) : List UInt8 := ((LN c).map (full m t)).flatten
def marker (p : List UInt8) : List UInt8 := (([64, 64, 112, 114, 111, 116, 111, 99, 95, 105, 110, 115, 101, 114, 116, 105, 111, 110, 95, 112, 111, 105, 110, 116, 40]) ++ p) ++ ([41])

theorem index_lt' (l : List UInt8) (c : UInt8) : Lib.indexByte l c < l.length := by
  induction l with
  | nil => simp [Lib.indexByte]
  | cons b l ih =>
    unfold Lib.indexByte
    simp only [List.length_cons]
    split
    · omega
    · split
      · omega
      · omega
/-- Lines are not empty, and no longer than the text; there are no more of them than bytes. -/
theorem lines_small : ∀ (k : Nat) (s : List UInt8), s.length ≤ k → (∀ e ∈ linesGo k s, e.1 ≠ [] ∧ e.1.length ≤ s.length) ∧ (linesGo k s).length ≤ s.length
  | 0, s, h => ⟨fun e he => (by cases he), Nat.zero_le _⟩
  | k + 1, s, h => by
    unfold linesGo
    by_cases hs : s = []
    · rw [if_pos hs]; exact ⟨fun e he => (by cases he), Nat.zero_le _⟩
    · have hpos : 0 < s.length := List.length_pos_iff.2 hs
      rw [if_neg hs]
      by_cases hi : Lib.indexByte s 10 < 0
      · rw [if_pos hi]
        exact ⟨fun e he => by simp at he; subst he; exact ⟨hs, Nat.le_refl _⟩, by simp; omega⟩
      · rw [if_neg hi]
        have hlt := index_lt' s 10
        have hdl : (s.drop ((Lib.indexByte s 10).toNat + 1)).length = s.length - ((Lib.indexByte s 10).toNat + 1) := List.length_drop
        obtain ⟨i1, i2⟩ := lines_small k (s.drop ((Lib.indexByte s 10).toNat + 1)) (by omega)
        refine ⟨fun e he => ?_, by simp only [List.length_cons]; omega⟩
        rcases List.mem_cons.1 he with rfl | he
        · refine ⟨fun e => ?_, by simp; omega⟩
          have h0 : (s.take ((Lib.indexByte s 10).toNat + 1)).length = 0 := by rw [show s.take ((Lib.indexByte s 10).toNat + 1) = [] from e]; rfl
          rw [List.length_take] at h0
          omega
        · have := i1 e he
          exact ⟨this.1, by have := this.2; omega⟩
theorem linesP_small (s : List UInt8) : (∀ e ∈ linesP s, e.1 ≠ [] ∧ e.1.length ≤ s.length) ∧ (linesP s).length ≤ s.length := by
  unfold linesP
  exact lines_small s.length s (Nat.le_refl _)
theorem ln_ne {s x : List UInt8} (h : x ∈ LN s) : x ≠ [] ∧ x.length ≤ s.length := by
  unfold LN at h
  obtain ⟨e, he, rfl⟩ := List.mem_map.1 h
  exact (lines_small s.length s (Nat.le_refl _)).1 e he
theorem ln_len (s : List UInt8) : (LN s).length ≤ s.length := by
  unfold LN
  rw [List.length_map]
  exact (lines_small s.length s (Nat.le_refl _)).2

theorem take_while (l : List UInt8) : l.take (l.length - (l.dropWhile ws).length) = l.takeWhile ws := by
  induction l with
  | nil => rfl
  | cons b l ih =>
    by_cases h : ws b = true
    · simp only [List.dropWhile_cons, h, if_true, List.takeWhile_cons, List.length_cons]
      have : (l.dropWhile ws).length ≤ l.length := List.IsSuffix.length_le (List.dropWhile_suffix ws)
      rw [show l.length + 1 - (l.dropWhile ws).length = (l.length - (l.dropWhile ws).length) + 1 by omega, List.take_succ_cons, ih]
    · simp [List.dropWhile_cons, List.takeWhile_cons, h]
theorem bl_len (l : List UInt8) : (bl l).length ≤ l.length := List.IsPrefix.length_le (List.takeWhile_prefix ws)
theorem blanks_ok (l : List UInt8) (hl : l.length ≤ 4000000000) : insert_blanks l = .ok (bl l) := by
  unfold insert_blanks strings_TrimLeft
  rw [if_pos ⟨by decide, by decide⟩, R.bind_ok]
  have e : Lib.trimLeftS l [32, 9] = l.dropWhile ws := rfl
  rw [e]
  have hd : (l.dropWhile ws).length ≤ l.length := List.IsSuffix.length_le (List.dropWhile_suffix ws)
  have ew : IntKind.wrap .i64 ((l.length : Int) - ((l.dropWhile ws).length : Int)) = ((l.length - (l.dropWhile ws).length : Nat) : Int) := by rw [wrap64 (by omega)]; omega
  rw [ew, if_pos (by omega), Int.toNat_natCast, take_while]
  rfl
theorem suf_len (x : List UInt8) : (Lib.trimSuffix x [10]).length ≤ x.length := by
  unfold Lib.trimSuffix
  split
  · simp
  · exact Nat.le_refl _
theorem piece_len (l x : List UInt8) : (piece l x).length ≤ l.length + x.length + 1 := by
  unfold piece
  have h1 := bl_len l
  have h2 := suf_len x
  simp only [List.length_append, List.length_cons, List.length_nil]
  split <;> simp <;> omega
theorem write_ok (b : Bool) (acc x : List UInt8) (h : acc.length + x.length ≤ 1000000000) : strings_Builder_WriteString b acc x = .ok ((x.length : Int), true, acc ++ x) := by
  unfold strings_Builder_WriteString strings_Builder_copyCheck
  simp only [R.sure, R.bind_ok]
  rw [if_pos h]
theorem r3_ok (e : List UInt8 × List UInt8) (he : e.1.length ≤ 500) : ∀ (ls : List (List UInt8 × List UInt8)) (b : Bool) (acc r : List UInt8), (∀ p ∈ ls, p.1.length ≤ 500) → acc.length + ls.length * 1100 ≤ 1000000000 →
    ∃ b' r', insert_At_r3 e ls b acc r = .ok (b', acc ++ ((ls.map (·.1)).map (piece e.1)).flatten, r')
  | [], b, acc, r, h1, h2 => ⟨b, r, by simp [insert_At_r3]⟩
  | p :: ls, b, acc, r, h1, h2 => by
    have hp := h1 p (by simp)
    have hs := suf_len p.1
    have hb := bl_len e.1
    simp only [List.length_cons] at h2
    have step : ∀ (b : Bool) (acc' : List UInt8), acc'.length ≤ acc.length + 500 → ∃ b' r', insert_At_j4 (insert_At_r3 e ls) p b acc' = .ok (b', acc' ++ (Lib.trimSuffix p.1 [10] ++ [10]) ++ ((ls.map (·.1)).map (piece e.1)).flatten, r') := by
      intro b acc' ha
      unfold insert_At_j4 strings_TrimSuffix
      rw [if_pos (by omega)]
      simp only [R.sure, R.bind_ok]
      rw [if_pos (by simp; omega), write_ok _ _ _ (by simp; omega)]
      simp only [R.bind_ok]
      exact r3_ok e he ls true _ _ (fun q hq => h1 q (by simp [hq])) (by simp; omega)
    rw [insert_At_r3]
    by_cases hx : p.1 = [10]
    · rw [if_pos hx]
      obtain ⟨b', r', h⟩ := step b acc (by omega)
      refine ⟨b', r', ?_⟩
      rw [h]
      simp [piece, hx]
    · rw [if_neg hx, blanks_ok _ (by omega)]
      simp only [R.sure, R.bind_ok]
      rw [write_ok _ _ _ (by omega)]
      simp only [R.bind_ok]
      obtain ⟨b', r', h⟩ := step true (acc ++ bl e.1) (by simp; omega)
      refine ⟨b', r', ?_⟩
      rw [h]
      simp [piece, hx]
theorem flatl_len {α : Type} (f : α → List UInt8) (n : Nat) : ∀ (l : List α), (∀ x ∈ l, (f x).length ≤ n) → ((l.map f).flatten).length ≤ l.length * n
  | [], _ => by simp
  | x :: l, h => by
    have h1 := h x (by simp)
    have h2 := flatl_len f n l fun y hy => h y (by simp [hy])
    simp only [List.map_cons, List.flatten_cons, List.length_append, List.length_cons, Nat.add_mul]
    omega
theorem ins_len {l t : List UInt8} (hl : l.length ≤ 500) (ht : t.length ≤ 500) : (ins l t).length ≤ 550000 := by
  have h := flatl_len (piece l) 1100 (LN t) fun x hx => by have := piece_len l x; have := (ln_ne hx).2; omega
  have := ln_len t
  unfold ins
  omega
theorem r1_ok (x1 t : List UInt8) (ht : t.length ≤ 500) : ∀ (ls : List (List UInt8 × List UInt8)) (b : Bool) (acc r : List UInt8), (∀ p ∈ ls, p.1.length ≤ 500) → acc.length + ls.length * 600000 ≤ 900000000 →
    ∃ b' r', insert_At_r1 x1 t ls b acc r = .ok (b', acc ++ ((ls.map (·.1)).map (full (marker x1) t)).flatten, r')
  | [], b, acc, r, h1, h2 => ⟨b, r, by simp [insert_At_r1]⟩
  | p :: ls, b, acc, r, h1, h2 => by
    have hp := h1 p (by simp)
    simp only [List.length_cons] at h2
    have step : ∀ (b : Bool) (acc' : List UInt8), acc'.length ≤ acc.length + 550000 → ∃ b' r', insert_At_j2 (insert_At_r1 x1 t ls) p b acc' = .ok (b', acc' ++ p.1 ++ ((ls.map (·.1)).map (full (marker x1) t)).flatten, r') := by
      intro b acc' ha
      unfold insert_At_j2
      rw [write_ok _ _ _ (by omega)]
      simp only [R.sure, R.bind_ok]
      exact r1_ok x1 t ht ls true _ _ (fun q hq => h1 q (by simp [hq])) (by simp; omega)
    rw [insert_At_r1]
    unfold strings_Contains
    rw [if_pos (by omega)]
    simp only [R.sure, R.bind_ok]
    by_cases hc : Lib.contains p.1 (marker x1) = true
    · have hc' := hc
      unfold marker at hc'
      rw [if_pos hc']
      unfold strings_Lines
      simp only [R.bind_ok]
      rw [if_pos (by omega)]
      have hn := linesP_small t
      obtain ⟨b1, r1, g⟩ := r3_ok p hp (linesP t) b acc t (fun q hq => by have := (hn.1 q hq).2; omega) (by have h5 : (linesP t).length ≤ t.length := hn.2; omega)
      rw [g, R.bind_ok]
      have hil := ins_len hp ht
      obtain ⟨b', r', h⟩ := step b1 (acc ++ ((linesP t).map (·.1) |>.map (piece p.1)).flatten) (by
        have : ((linesP t).map (·.1) |>.map (piece p.1)).flatten = ins p.1 t := rfl
        rw [this]; simp; omega)
      refine ⟨b', r', ?_⟩
      simp only []
      rw [h]
      simp [full, hc, ins, LN]
    · have hc' := hc
      unfold marker at hc'
      rw [if_neg hc']
      obtain ⟨b', r', h⟩ := step b acc (by omega)
      refine ⟨b', r', ?_⟩
      rw [h]
      simp [full, hc]
theorem append_ok : ∀ (ls : List (List UInt8 × List UInt8)) (r : List UInt8) (acc : List (List UInt8)), acc.length + ls.length ≤ 1000000000 → ∃ r', slices_AppendSeq_string_r0 ls r acc = .ok (r', acc ++ ls.map (·.1))
  | [], r, acc, h => ⟨r, by simp [slices_AppendSeq_string_r0]⟩
  | p :: ls, r, acc, h => by
    simp only [List.length_cons] at h
    rw [slices_AppendSeq_string_r0, if_pos (by simp; omega)]
    obtain ⟨r', h'⟩ := append_ok ls p.2 (acc ++ [p.1]) (by simp; omega)
    exact ⟨r', by rw [h']; simp⟩
theorem find_ok (m : List UInt8) (xs : List (List UInt8)) (hx : ∀ x ∈ xs, x.length ≤ 500) (hn : xs.length ≤ 1000) : ∀ (k i : Nat), i ≤ xs.length → xs.length - i < k →
    ∃ z, slices_IndexFunc_string_l1 m xs k (i : Int) = .ok z ∧ (match z with | .inl _ => (xs.drop i).any (Lib.contains · m) = false | .inr j => 0 ≤ j ∧ (xs.drop i).any (Lib.contains · m) = true)
  | 0, i, h1, h2 => by omega
  | k + 1, i, h1, h2 => by
    unfold slices_IndexFunc_string_l1
    by_cases hl : i < xs.length
    · rw [if_pos (show (i : Int) < (xs.length : Int) by omega), if_pos (show 0 ≤ (i : Int) ∧ (i : Int) < (xs.length : Int) by omega), gt_at hl]
      unfold insert_At_1 strings_Contains
      have := hx _ (List.getElem_mem hl)
      rw [if_pos (by omega)]
      simp only [R.sure, R.bind_ok]
      rw [drop_at hl, List.any_cons]
      by_cases hc : Lib.contains xs[i] m = true
      · rw [if_pos hc]
        exact ⟨_, rfl, by omega, by rw [hc]; rfl⟩
      · rw [if_neg hc]
        have e1 : IntKind.wrap .i64 ((i : Int) + 1) = ((i + 1 : Nat) : Int) := by rw [wrap64 (by omega)]; omega
        rw [e1]
        obtain ⟨z, h3, h4⟩ := find_ok m xs hx hn k (i + 1) (by omega) (by omega)
        refine ⟨z, h3, ?_⟩
        have hcf : Lib.contains xs[i] m = false := by simpa using hc
        rw [hcf, Bool.false_or]
        exact h4
    · rw [if_neg (show ¬ (i : Int) < (xs.length : Int) by omega), List.drop_eq_nil_of_le (by omega)]
      exact ⟨_, rfl, rfl⟩
theorem at_ok (c p t : List UInt8) (hc : c.length ≤ 500) (hp : p.length ≤ 200) (ht : t.length ≤ 500) :
    insert_At c p t = .ok (if (LN c).any (Lib.contains · (marker p)) = true then (outAt c (marker p) t, true) else ([], false)) := by
  unfold insert_At strings_Lines slices_Collect_string slices_AppendSeq_string slices_ContainsFunc_string slices_IndexFunc_string
  rw [if_pos (by simp; omega), if_pos (by simp; omega)]
  simp only [R.sure, R.bind_ok]
  have hn := linesP_small c
  obtain ⟨r', ha⟩ := append_ok (linesP c) c [] (by have := hn.2; show 0 + _ ≤ _; omega)
  rw [if_pos (by omega), ha]
  simp only [R.bind_ok, List.nil_append]
  have hLN : (linesP c).map (·.1) = LN c := rfl
  rw [hLN]
  obtain ⟨z, h3, h4⟩ := find_ok (marker p) (LN c) (fun x hx => by have := (ln_ne hx).2; omega) (by have := ln_len c; omega) Many 0 (by omega) (by have := ln_len c; unfold Many; omega)
  have h3' : slices_IndexFunc_string_l1 ((([64, 64, 112, 114, 111, 116, 111, 99, 95, 105, 110, 115, 101, 114, 116, 105, 111, 110, 95, 112, 111, 105, 110, 116, 40]) ++ p) ++ ([41])) (LN c) Many 0 = .ok z := h3
  rw [h3']
  simp only [R.bind_ok]
  cases z with
  | inl u =>
    simp only [List.drop_zero] at h4
    simp only [slices_IndexFunc_string_j0, R.bind_ok]
    rw [if_neg (by decide), if_neg (by rw [h4]; decide)]
  | inr j =>
    simp only [List.drop_zero] at h4
    simp only [R.bind_ok]
    rw [if_pos (decide_eq_true h4.1), if_pos (by omega), if_pos h4.2]
    obtain ⟨b', r1, h5⟩ := r1_ok p t ht (linesP c) false [] c (fun q hq => by have := (hn.1 q hq).2; omega) (by have h5 : (linesP c).length ≤ c.length := hn.2; show 0 + _ ≤ _; omega)
    rw [h5, R.bind_ok, hLN]
    unfold insert_At_j0 strings_Builder_String
    have hne : ([] : List UInt8) ++ ((LN c).map (full (marker p) t)).flatten ≠ [] := by
      rw [List.nil_append]
      intro hz
      obtain ⟨x, hx, _⟩ := List.any_eq_true.1 h4.2
      have := List.flatten_eq_nil_iff.1 hz (full (marker p) t x) (List.mem_map_of_mem hx)
      unfold full at this
      have := (List.append_eq_nil_iff.1 this).2
      exact (ln_ne hx).1 this
    simp only []
    rw [if_pos hne]
    simp only [R.bind_ok, List.nil_append]
    rfl
end Go.Proofs.YtmjohmefhikelaaDoor.Pv
