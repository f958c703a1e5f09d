/- The scanner's parts, as plain functions: blanks, comments, what is put. -/
import Derived.Test.YtblbbmlppmpmjaaG9
import Derived.Test.YtblbbmlppmpmjaaLB
set_option linter.unusedVariables false
set_option linter.unusedSimpArgs false
set_option maxRecDepth 20000
namespace Go.Proofs.Ytblbbmlppmpmjaa.Pv
open Go Go.Proofs

def R.got {α : Type} (r : R α) : Option α :=
  match r with
  | .ok a => some a
  | _ => none
theorem R.of_got {α : Type} {r : R α} {a : α} (h : r.got = some a) : r = .ok a := by
  cases r with
  | ok b => simp only [R.got, Option.some.injEq] at h; rw [h]
  | pan v => cases h
  | stuck => cases h

/-- What stands between tokens. -/
def bl (c : UInt8) : Bool := decide (c.toNat = 32) || (decide (9 ≤ c.toNat) && decide (c.toNat ≤ 13))
theorem bl_tab : ∀ i : Fin 256, (lex_blank (UInt8.ofNat i.val)).got = some (bl (UInt8.ofNat i.val)) := by decide +kernel
theorem blank_ok (c : UInt8) : lex_blank c = .ok (bl c) := R.of_got (bytes_all (p := fun c => (lex_blank c).got = some (bl c)) bl_tab c)
/-- What stands in names and numbers. -/
def wordB (c : UInt8) : Bool := (decide (97 ≤ c.toNat) && decide (c.toNat ≤ 122)) || (decide (65 ≤ c.toNat) && decide (c.toNat ≤ 90)) || (decide (48 ≤ c.toNat) && decide (c.toNat ≤ 57)) || decide (c.toNat = 95)
theorem word_tab : ∀ i : Fin 256, (lex_word (UInt8.ofNat i.val)).got = some (wordB (UInt8.ofNat i.val)) := by decide +kernel
theorem word_ok (c : UInt8) : lex_word c = .ok (wordB c) := R.of_got (bytes_all (p := fun c => (lex_word c).got = some (wordB c)) word_tab c)

theorem line_ok (s : List UInt8) (i : Int) (d : List (List UInt8)) (f m : Bool) (l : List S_api_Token) : lex_scanner_line s i d f m l = .ok (s, i, if m then d else [], false, false, l) := by
  unfold lex_scanner_line lex_scanner_line_j0
  cases m
  · rw [if_neg (by simp), if_pos (by omega)]; rfl
  · rfl

/-- Past blanks. -/
def bk : List UInt8 → Nat → List (List UInt8) → Bool → Bool → List UInt8 × Nat × List (List UInt8) × Bool × Bool
  | [], i, d, f, m => ([], i, d, f, m)
  | c :: r, i, d, f, m => if bl c = true then (if c = 10 then bk r (i + 1) (if m then d else []) false false else bk r (i + 1) d f m) else (c :: r, i, d, f, m)
theorem byte10 {c : UInt8} : ((c.toNat : Int) = 10) ↔ c = 10 := ⟨fun h => UInt8.toNat_inj.1 (show c.toNat = 10 by omega), fun h => by rw [h]; rfl⟩
theorem blanks_loop {s : List UInt8} (hs : s.length ≤ 100000) : ∀ (r : List UInt8) (k i : Nat) (d : List (List UInt8)) (f m : Bool) (l : List S_api_Token), s.drop i = r → i ≤ s.length → r.length < k →
    lex_scanner_blanks_l0 k s (i : Int) d f m l = .ok (s, ((bk r i d f m).2.1 : Int), (bk r i d f m).2.2.1, (bk r i d f m).2.2.2.1, (bk r i d f m).2.2.2.2, l) := by
  intro r
  induction r with
  | nil =>
    intro k i d f m l hd hi hk
    obtain ⟨k, rfl⟩ : ∃ k', k = k' + 1 := ⟨k - 1, by omega⟩
    have : s.length ≤ i := List.drop_eq_nil_iff.1 hd
    rw [lex_scanner_blanks_l0, if_neg (by omega)]
    rfl
  | cons c r ih =>
    intro k i d f m l hd hi hk
    obtain ⟨k, rfl⟩ : ∃ k', k = k' + 1 := ⟨k - 1, by omega⟩
    have hlt : i < s.length := by
      rcases Nat.lt_or_ge i s.length with h | h
      · exact h
      · rw [List.drop_eq_nil_of_le h] at hd; cases hd
    rw [drop_at hlt] at hd
    injection hd with h1 h2
    have hg : List.getD s (Int.toNat (i : Int)) 0 = c := by rw [Int.toNat_natCast, getD_at hlt, h1]
    simp only [List.length_cons] at hk
    rw [lex_scanner_blanks_l0, if_pos (by omega), if_pos (by omega), hg, blank_ok]
    simp only [R.sure_ok, R.bind_ok, bk]
    by_cases hb : bl c = true
    · rw [if_pos hb, if_pos hb, if_pos (by omega)]
      by_cases hc : c = 10
      · rw [if_pos (byte10.2 hc), if_pos hc, line_ok]
        simp only [R.sure_ok, R.bind_ok, lex_scanner_blanks_j1]
        rw [next64 (by omega)]
        exact ih k (i + 1) _ _ _ l h2 (by omega) (by omega)
      · rw [if_neg (fun h => hc (byte10.1 h)), if_neg hc, lex_scanner_blanks_j1, next64 (by omega)]
        exact ih k (i + 1) _ _ _ l h2 (by omega) (by omega)
    · rw [if_neg hb, if_neg hb]
theorem blanks_ok {s : List UInt8} (hs : s.length ≤ 100000) {i : Nat} (hi : i ≤ s.length) {r : List UInt8} (hd : s.drop i = r) (d : List (List UInt8)) (f m : Bool) (l : List S_api_Token) :
    lex_scanner_blanks s (i : Int) d f m l = .ok (s, ((bk r i d f m).2.1 : Int), (bk r i d f m).2.2.1, (bk r i d f m).2.2.2.1, (bk r i d f m).2.2.2.2, l) := by
  unfold lex_scanner_blanks
  rw [blanks_loop hs r Many i d f m l hd hi (many_gt (by rw [← hd]; simp; omega))]
  rfl
def dl (d : List (List UInt8)) : Nat := d.flatten.length
theorem bk_facts : ∀ (r : List UInt8) (s : List UInt8) (i : Nat) (d : List (List UInt8)) (f m : Bool), s.drop i = r → i ≤ s.length →
    s.drop (bk r i d f m).2.1 = (bk r i d f m).1 ∧ (bk r i d f m).2.1 + (bk r i d f m).1.length = i + r.length ∧ i ≤ (bk r i d f m).2.1 ∧ (bk r i d f m).2.2.1.length ≤ d.length ∧ dl (bk r i d f m).2.2.1 ≤ dl d := by
  intro r
  induction r with
  | nil => intro s i d f m hd hi; exact ⟨hd, rfl, Nat.le_refl _, Nat.le_refl _, Nat.le_refl _⟩
  | cons c r ih =>
    intro s i d f m hd hi
    have hlt : i < s.length := by
      rcases Nat.lt_or_ge i s.length with h | h
      · exact h
      · rw [List.drop_eq_nil_of_le h] at hd; cases hd
    have hd' := hd
    rw [drop_at hlt] at hd
    injection hd with h1 h2
    unfold bk
    split
    · split
      · have := ih s (i + 1) (if m then d else []) false false h2 (by omega)
        simp only [List.length_cons]
        have hm : (if m = true then d else []).length ≤ d.length ∧ dl (if m = true then d else []) ≤ dl d := by cases m <;> simp [dl]
        exact ⟨this.1, by omega, by omega, by omega, by omega⟩
      · have := ih s (i + 1) d f m h2 (by omega)
        simp only [List.length_cons]
        exact ⟨this.1, by omega, by omega, by omega, by omega⟩
    · exact ⟨hd', rfl, Nat.le_refl _, Nat.le_refl _, Nat.le_refl _⟩
theorem bk_head : ∀ (r : List UInt8) (i : Nat) (d : List (List UInt8)) (f m : Bool) (c : UInt8) (t : List UInt8), (bk r i d f m).1 = c :: t → bl c = false := by
  intro r
  induction r with
  | nil => intro i d f m c t h; simp [bk] at h
  | cons e r ih =>
    intro i d f m c t h
    unfold bk at h
    split at h
    · split at h
      · exact ih _ _ _ _ _ _ h
      · exact ih _ _ _ _ _ _ h
    · rename_i hb
      injection h with h1 h2
      subst h1
      simpa using hb

theorem hasPrefix_ok (x p : List UInt8) : strings_HasPrefix x p = .ok (p.isPrefixOf x) := by
  unfold strings_HasPrefix stringslite_HasPrefix
  have hiff : p.isPrefixOf x = true ↔ x.take p.length = p := by
    rw [List.isPrefixOf_iff_prefix, List.prefix_iff_eq_take]
    exact ⟨fun h => h.symm, fun h => h.symm⟩
  by_cases h : p.length ≤ x.length
  · rw [if_pos (by omega), if_pos (by omega), Int.toNat_natCast]
    simp only [R.bind_ok]
    congr 1
    by_cases hp : x.take p.length = p
    · rw [decide_eq_true hp, hiff.2 hp]
    · rw [decide_eq_false hp]
      cases hq : p.isPrefixOf x with
      | false => rfl
      | true => exact absurd (hiff.1 hq) hp
  · rw [if_neg (by omega)]
    simp only [R.bind_ok]
    congr 1
    cases hq : p.isPrefixOf x with
    | false => rfl
    | true =>
      have := congrArg List.length (hiff.1 hq)
      rw [List.length_take] at this
      omega

theorem short_ok {s : List UInt8} (hs : s.length ≤ 100000) {i : Nat} {t : List UInt8} (hi : i + 2 ≤ s.length) (hd : s.drop (i + 2) = t) (d : List (List UInt8)) (f m : Bool) (l : List S_api_Token) (hdl : d.length ≤ 1000000) :
    lex_scanner_short s (i : Int) d f m l = .ok (s, ((i + 2 + (pre t).length : Nat) : Int), if f then d else d ++ [pre t ++ [10]], true, if f then m else true, l) := by
  have hp := pre_le t
  have ht : t.length ≤ 100000 := by rw [← hd]; simp; omega
  unfold lex_scanner_short
  have e2 : IntKind.wrap .i64 ((i : Int) + 2) = ((i + 2 : Nat) : Int) := by rw [wrap64 (by omega)]; omega
  rw [e2, if_pos (by omega), Int.toNat_natCast, hd, strings_Cut, if_pos (by omega), cut10]
  have e3 : IntKind.wrap .i64 ((i : Int) + IntKind.wrap .i64 (2 + ((pre t).length : Int))) = ((i + 2 + (pre t).length : Nat) : Int) := by
    rw [wrap64 (n := 2 + ((pre t).length : Int)) (by omega), wrap64 (by omega)]; omega
  simp only [R.sure_ok, R.bind_ok, lex_scanner_short_j0, e3]
  cases f
  · rw [if_neg (by simp), if_pos (by simp only [List.length_cons, List.length_nil]; omega), if_pos (by simp only [List.length_cons, List.length_nil]; omega)]
    rfl
  · rfl

theorem line_rounds {n : Nat} (hn : n ≤ 100000) (s : List UInt8) (i : Int) (l : List S_api_Token) : ∀ (j k a : Nat) (d : List (List UInt8)) (m : Bool), a + j = n → j < k → ∃ d', lex_scanner_long_l1 (n : Int) k (a : Int) s i d m l = .ok (s, i, d', (if j = 0 then m else false), l) := by
  intro j
  induction j with
  | zero =>
    intro k a d m ha hk
    obtain ⟨k, rfl⟩ : ∃ k', k = k' + 1 := ⟨k - 1, by omega⟩
    exact ⟨d, by rw [lex_scanner_long_l1, if_neg (by omega)]; rfl⟩
  | succ j ih =>
    intro k a d m ha hk
    obtain ⟨k, rfl⟩ : ∃ k', k = k' + 1 := ⟨k - 1, by omega⟩
    rw [lex_scanner_long_l1, if_pos (by omega), line_ok]
    simp only [R.sure_ok, R.bind_ok]
    rw [next64 (by omega)]
    obtain ⟨d', h⟩ := ih k (a + 1) (if m = true then d else []) false (by omega) (by omega)
    exact ⟨d', by rw [h]; simp⟩
theorem long_ok {s : List UInt8} (hs : s.length ≤ 100000) {i : Nat} {t : List UInt8} (hi : i + 2 ≤ s.length) (hd : s.drop (i + 2) = t) (d : List (List UInt8)) (f m : Bool) (l : List S_api_Token) :
    lex_scanner_long s (i : Int) d f m l = .ok (if (Lib.cut t [42, 47]).2.2 then (true, s, ((i + 4 + (Lib.cut t [42, 47]).1.length : Nat) : Int), [], true, (if Lib.countByte (Lib.cut t [42, 47]).1 10 = 0 then m else false), l) else (false, s, (i : Int), d, f, m, l)) := by
  have ht : t.length ≤ 100000 := by rw [← hd]; simp; omega
  unfold lex_scanner_long
  have e2 : IntKind.wrap .i64 ((i : Int) + 2) = ((i + 2 : Nat) : Int) := by rw [wrap64 (by omega)]; omega
  rw [e2, if_pos (by omega), Int.toNat_natCast, hd, strings_Cut, if_pos (by omega)]
  simp only [R.sure_ok, R.bind_ok]
  have hc : (Lib.cut t [42, 47]).1.length ≤ t.length := by
    unfold Lib.cut
    split
    · simp only [List.length_take]; omega
    · exact Nat.le_refl _
  generalize hq : Lib.cut t [42, 47] = q at hc
  obtain ⟨q1, q2, q3⟩ := q
  cases q3
  · rfl
  · simp only [if_true, strings_Count, List.length_cons, List.length_nil, Nat.zero_add, List.headD_cons, R.bind_ok]
    have hcnt : Lib.countByte q1 10 ≤ q1.length := List.count_le_length
    simp only [] at hc
    obtain ⟨d', h⟩ := line_rounds (n := Lib.countByte q1 10) (by omega) s (i : Int) l (Lib.countByte q1 10) Many 0 d m (by omega) (many_gt (by omega))
    rw [show ((0 : Int)) = ((0 : Nat) : Int) from rfl, h]
    simp only [R.bind_ok, lex_scanner_long_j0]
    have e3 : IntKind.wrap .i64 ((i : Int) + IntKind.wrap .i64 ((q1.length : Int) + 4)) = ((i + 4 + q1.length : Nat) : Int) := by
      rw [wrap64 (n := (q1.length : Int) + 4) (by omega), wrap64 (by omega)]; omega
    rw [if_pos (by omega), e3]

/-! ### the comments as one text -/
theorem join_loop {x : List (List UInt8)} (hx : x.length ≤ 1000000) : ∀ (n k i : Nat) (b : Bool) (out : List UInt8), i + n = (x.drop 1).length → n < k → out.length + ((x.drop 1).drop i).flatten.length ≤ 1000000000 →
    ∃ b', strings_Join_l1 x [] k (i : Int) b out = .ok (b', out ++ ((x.drop 1).drop i).flatten) := by
  intro n
  induction n with
  | zero =>
    intro k i b out hi hk ho
    obtain ⟨k, rfl⟩ : ∃ k', k = k' + 1 := ⟨k - 1, by omega⟩
    refine ⟨b, ?_⟩
    rw [strings_Join_l1, if_neg (by omega), List.drop_eq_nil_of_le (by omega)]
    simp
  | succ n ih =>
    intro k i b out hi hk ho
    obtain ⟨k, rfl⟩ : ∃ k', k = k' + 1 := ⟨k - 1, by omega⟩
    have hlt : i < (x.drop 1).length := by omega
    have hl : (x.drop 1).length ≤ x.length := by simp
    rw [drop_at hlt, List.flatten_cons, List.length_append] at ho
    rw [strings_Join_l1, if_pos (by omega), if_pos (by omega), gt_at hlt, write_ok (by simp only [List.length_nil]; omega)]
    simp only [R.sure_ok, R.bind_ok, List.append_nil]
    rw [write_ok (by omega)]
    simp only [R.sure_ok, R.bind_ok]
    rw [next64 (by omega)]
    obtain ⟨b', h⟩ := ih k (i + 1) true (out ++ (x.drop 1)[i]) (by omega) (by omega) (by simp only [List.length_append]; omega)
    refine ⟨b', ?_⟩
    rw [h, drop_at hlt, List.flatten_cons, List.append_assoc]
theorem sum_loop {x : List (List UInt8)} (hx : x.length ≤ 1000000) : ∀ (n k i : Nat) (a : Nat), i + n = x.length → n < k → a + (x.drop i).flatten.length ≤ 1000000000 →
    strings_Join_l3 x k (a : Int) (i : Int) = .ok ((a + (x.drop i).flatten.length : Nat) : Int) := by
  intro n
  induction n with
  | zero =>
    intro k i a hi hk ho
    obtain ⟨k, rfl⟩ : ∃ k', k = k' + 1 := ⟨k - 1, by omega⟩
    rw [strings_Join_l3, if_neg (by omega), List.drop_eq_nil_of_le (by omega)]
    simp
  | succ n ih =>
    intro k i a hi hk ho
    obtain ⟨k, rfl⟩ : ∃ k', k = k' + 1 := ⟨k - 1, by omega⟩
    have hlt : i < x.length := by omega
    rw [drop_at hlt, List.flatten_cons, List.length_append] at ho
    rw [strings_Join_l3, if_pos (by omega), if_pos (by omega), gt_at hlt, wrap64 (n := 9223372036854775807 - (a : Int)) (by omega), if_neg (by omega), next64 (by omega)]
    have e : IntKind.wrap .i64 ((a : Int) + (x[i].length : Int)) = ((a + x[i].length : Nat) : Int) := by rw [wrap64 (by omega)]; omega
    rw [e, ih k (i + 1) _ (by omega) (by omega) (by omega), drop_at hlt, List.flatten_cons, List.length_append]
    congr 2
    omega
theorem join_ok {x : List (List UInt8)} (hx : x.length ≤ 1000000) (hd : dl x ≤ 1000000000) : strings_Join x [] = .ok x.flatten := by
  unfold dl at hd
  match x, hx, hd with
  | [], _, _ => rfl
  | [a], _, _ => simp [strings_Join]
  | a :: b :: r, hx, hd =>
    unfold strings_Join
    simp only [List.length_cons] at hx
    rw [if_neg (by simp only [List.length_cons]; omega), if_neg (by simp only [List.length_cons]; omega), if_neg (by simp), strings_Join_j4]
    have h := sum_loop (x := a :: b :: r) (by simp only [List.length_cons]; omega) (a :: b :: r).length Many 0 0 (by omega) (many_gt (by simp only [List.length_cons]; omega)) (by simpa using hd)
    simp only [List.drop_zero, Nat.zero_add] at h
    rw [show ((0 : Int)) = ((0 : Nat) : Int) from rfl, h]
    simp only [R.bind_ok, strings_Join_j2, strings_Builder_Grow]
    rw [if_pos ⟨trivial, by omega, by omega⟩]
    simp only [R.sure_ok, R.bind_ok]
    rw [if_pos (by simp only [List.length_cons]; omega)]
    have hfl : (a :: b :: r).flatten.length = a.length + (b :: r).flatten.length := by simp only [List.flatten_cons, List.length_append]
    have hg : List.getD (a :: b :: r) 0 default = a := rfl
    rw [hg, write_ok (by simp only [List.length_nil]; omega)]
    simp only [R.sure_ok, R.bind_ok]
    rw [if_pos (by simp only [List.length_cons]; omega)]
    obtain ⟨b', h2⟩ := join_loop (x := a :: b :: r) (by simp only [List.length_cons]; omega) (b :: r).length Many 0 true ([] ++ a) (by simp) (many_gt (by simp only [List.length_cons]; omega)) (by simp only [List.drop_zero, List.drop_succ_cons, List.nil_append]; omega)
    simp only [List.drop_zero, List.drop_succ_cons, List.nil_append, Int.natCast_zero] at h2 ⊢
    rw [h2]
    simp only [R.bind_ok, strings_Join_j0, strings_Builder_String, R.sure_ok, List.flatten_cons]
/-- What a token's comments are. -/
def dc (f : Bool) (d : List (List UInt8)) (t : List UInt8) : List UInt8 := if f then t else d.flatten
theorem put_ok {s : List UInt8} (hs : s.length ≤ 100000) {i n : Nat} (hi : i + n ≤ s.length) (d : List (List UInt8)) (f m : Bool) (l : List S_api_Token) (t : S_api_Token) (hd : d.length ≤ 1000000) (hdl : dl d ≤ 1000000000) (hl : l.length ≤ 1000000) :
    lex_scanner_put s (i : Int) d f m l t (n : Int) = .ok (s, ((i + n : Nat) : Int), [], true, m, l ++ [S_api_Token.mk t.Kind t.Text t.N (i : Int) (dc f d t.Doc)]) := by
  have e : IntKind.wrap .i64 ((i : Int) + (n : Int)) = ((i + n : Nat) : Int) := by rw [wrap64 (by omega)]; omega
  unfold lex_scanner_put lex_scanner_put_j0 dc
  cases f
  · rw [if_neg (by simp), join_ok hd hdl]
    simp only [R.sure_ok, R.bind_ok]
    rw [if_pos (by omega), if_pos (by simp only [List.length_cons, List.length_nil]; omega), e]
    rfl
  · rw [if_pos rfl, if_pos (by omega), if_pos (by simp only [List.length_cons, List.length_nil]; omega), e]
    rfl
end Go.Proofs.Ytblbbmlppmpmjaa.Pv
