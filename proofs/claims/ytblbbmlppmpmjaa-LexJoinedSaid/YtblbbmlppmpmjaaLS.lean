/- The scan, as a plain function. -/
import Derived.Test.YtblbbmlppmpmjaaLT
import Derived.Test.YtblbbmlppmpmjaaG8
set_option linter.unusedVariables false
set_option linter.unusedSimpArgs false
set_option maxRecDepth 20000
namespace Go.Proofs.Ytblbbmlppmpmjaa.Pv
open Go Go.Proofs

def wl : List UInt8 → Nat
  | [] => 0
  | c :: r => if wordB c = true then wl r + 1 else 0
theorem wl_le : ∀ r : List UInt8, wl r ≤ r.length
  | [] => Nat.le_refl _
  | c :: r => by
    unfold wl
    have := wl_le r
    simp only [List.length_cons]
    split <;> omega
def signs : List UInt8 := [59, 44, 46, 61, 123, 125, 91, 93, 40, 41, 60, 62, 58, 45]
/-- The token at the head: what it is, how long; or where it is wrong. -/
def tokS : List UInt8 → (Nat × Int) ⊕ ((Int × List UInt8 × Int) × Nat)
  | [] => .inl (0, 50)
  | c :: r =>
    if wordB c = true then
      (if 48 ≤ c.toNat ∧ c.toNat ≤ 57 then (if (number ((c :: r).take (wl r + 1))).2 = true then .inr ((2, [], (number ((c :: r).take (wl r + 1))).1), wl r + 1) else .inl (0, 52))
       else .inr ((1, (c :: r).take (wl r + 1), 0), wl r + 1))
    else if c = 34 ∨ c = 39 then (if (takeS (c :: r)).2.2 = 0 then .inr ((3, (takeS (c :: r)).1, 0), (takeS (c :: r)).2.1) else .inl ((takeS (c :: r)).2.1, (takeS (c :: r)).2.2))
    else if 0 ≤ Lib.indexByte signs c then .inr ((4, [c], 0), 1) else .inl (0, 50)
theorem tokS_cons (c : UInt8) (r : List UInt8) : tokS (c :: r) =
    if wordB c = true then
      (if 48 ≤ c.toNat ∧ c.toNat ≤ 57 then (if (number ((c :: r).take (wl r + 1))).2 = true then .inr ((2, [], (number ((c :: r).take (wl r + 1))).1), wl r + 1) else .inl (0, 52))
       else .inr ((1, (c :: r).take (wl r + 1), 0), wl r + 1))
    else if c = 34 ∨ c = 39 then (if (takeS (c :: r)).2.2 = 0 then .inr ((3, (takeS (c :: r)).1, 0), (takeS (c :: r)).2.1) else .inl ((takeS (c :: r)).2.1, (takeS (c :: r)).2.2))
    else if 0 ≤ Lib.indexByte signs c then .inr ((4, [c], 0), 1) else .inl (0, 50) := rfl
theorem tokS_err {r : List UInt8} {n : Nat} {e : Int} (h : tokS r = .inl (n, e)) : e ≠ 0 := by
  cases r with
  | nil => cases h; decide
  | cons c r =>
    rw [tokS_cons] at h
    split at h
    · split at h
      · split at h
        · cases h
        · cases h; decide
      · cases h
    · split at h
      · split at h
        · cases h
        · rename_i hz; cases h; exact hz
      · split at h
        · cases h
        · cases h; decide
theorem tokS_ok {r : List UInt8} {t : Int × List UInt8 × Int} {n : Nat} (h : tokS r = .inr (t, n)) : 1 ≤ n ∧ n ≤ r.length ∧ t.1 ≠ 0 ∧ (t.1 = 1 → t.2.1 = r.take n) := by
  cases r with
  | nil => cases h
  | cons c r =>
    have hw := wl_le r
    have hf := takeS_facts (c :: r)
    simp only [List.length_cons] at hf ⊢
    rw [tokS_cons] at h
    split at h
    · split at h
      · split at h
        · cases h; exact ⟨by omega, by omega, (show (2 : Int) ≠ 0 by decide), fun h => by cases h⟩
        · cases h
      · cases h; exact ⟨by omega, by omega, (show (1 : Int) ≠ 0 by decide), fun _ => rfl⟩
    · split at h
      · split at h
        · rename_i hz
          cases h
          exact ⟨by omega, by omega, (show (3 : Int) ≠ 0 by decide), fun h => by cases h⟩
        · cases h
      · split at h
        · cases h; exact ⟨by omega, by omega, (show (4 : Int) ≠ 0 by decide), fun h => by cases h⟩
        · cases h
theorem word_loop {s : List UInt8} (hs : s.length ≤ 100000) {i : Nat} {x : List UInt8} (hx : s.drop i = x) (d : List (List UInt8)) : ∀ (t : List UInt8) (k j : Nat), x.drop j = t → j ≤ x.length → t.length < k →
    lex_scanner_token_l3 s (i : Int) k (j : Int) d = .ok (((j + wl t : Nat) : Int), d) := by
  have hxl : x.length ≤ 100000 := by rw [← hx]; simp; omega
  intro t
  induction t with
  | nil =>
    intro k j hd hj hk
    obtain ⟨k, rfl⟩ : ∃ k', k = k' + 1 := ⟨k - 1, by omega⟩
    have : x.length ≤ j := List.drop_eq_nil_iff.1 hd
    rw [lex_scanner_token_l3, Int.toNat_natCast, hx, if_neg (by omega)]
    rfl
  | cons c t ih =>
    intro k j hd hj hk
    obtain ⟨k, rfl⟩ : ∃ k', k = k' + 1 := ⟨k - 1, by omega⟩
    have hlt : j < x.length := by
      rcases Nat.lt_or_ge j x.length with h | h
      · exact h
      · rw [List.drop_eq_nil_of_le h] at hd; cases hd
    rw [drop_at hlt] at hd
    injection hd with e1 e2
    simp only [List.length_cons] at hk
    have hg : List.getD x (Int.toNat (j : Int)) 0 = c := by rw [Int.toNat_natCast, getD_at hlt, e1]
    rw [lex_scanner_token_l3, Int.toNat_natCast (n := i), hx, if_pos (by omega), if_pos (by omega), hg, word_ok]
    simp only [R.bind_ok, wl]
    by_cases hw : wordB c = true
    · rw [if_pos hw, if_pos hw, next64 (by omega), ih k (j + 1) e2 (by omega) (by omega)]
      congr 3
      omega
    · rw [if_neg hw, if_neg hw]
      rfl
def mkT (t : Int × List UInt8 × Int) (i : Nat) (doc : List UInt8) : S_api_Token := S_api_Token.mk t.1 t.2.1 t.2.2 (i : Int) doc
theorem token_ok {s : List UInt8} (hs : s.length ≤ 100000) {i : Nat} {c : UInt8} {r : List UInt8} (hd : s.drop i = c :: r) (d : List (List UInt8)) (f m : Bool) (l : List S_api_Token) (hdn : d.length ≤ 1000000) (hdl : dl d ≤ 1000000000) (hl : l.length ≤ 1000000) :
    lex_scanner_token s (i : Int) d f m l = .ok (match tokS (c :: r) with
      | .inl q => (((i + q.1 : Nat) : Int), q.2, s, (i : Int), d, f, m, l)
      | .inr q => (0, 0, s, ((i + q.2 : Nat) : Int), [], true, m, l ++ [mkT q.1 i (dc f d [])])) := by
  have hlt : i < s.length := by
    rcases Nat.lt_or_ge i s.length with h | h
    · exact h
    · rw [List.drop_eq_nil_of_le h] at hd; cases hd
  have hrl : i + (r.length + 1) = s.length := by
    have := congrArg List.length hd
    simp only [List.length_drop, List.length_cons] at this
    omega
  have hg : List.getD (c :: r) 0 0 = c := rfl
  have hw := wl_le r
  unfold lex_scanner_token
  rw [if_pos (by omega), Int.toNat_natCast, hd, if_pos (by simp only [List.length_cons]; omega), hg, word_ok]
  simp only [R.bind_ok]
  rw [tokS_cons]
  by_cases h1 : wordB c = true
  · rw [if_pos h1, if_pos h1]
    have hwl := word_loop hs hd d r Many 1 rfl (by simp) (many_gt (by omega))
    rw [show ((1 : Nat) : Int) = 1 from rfl] at hwl
    rw [hwl]
    simp only [R.bind_ok, lex_scanner_token_j2]
    rw [Int.toNat_natCast, hd, if_pos (by simp only [List.length_cons]; omega), hg]
    have e1 : 1 + wl r = wl r + 1 := by omega
    rw [e1]
    have hput : ∀ (t0 : Int) (t1 : List UInt8) (t2 : Int), lex_scanner_token_j1 s (i : Int) f m l ((wl r + 1 : Nat) : Int) d t0 t1 t2 = .ok (0, 0, s, ((i + (wl r + 1) : Nat) : Int), [], true, m, l ++ [mkT (t0, t1, t2) i (dc f d [])]) := by
      intro t0 t1 t2
      unfold lex_scanner_token_j1
      rw [put_ok hs (by omega) d f m l _ hdn hdl hl]
      rfl
    by_cases h2 : 48 ≤ c.toNat
    · rw [if_pos (by omega)]
      simp only [R.bind_ok]
      by_cases h3 : c.toNat ≤ 57
      · rw [if_pos (decide_eq_true (by omega)), if_pos (c := 48 ≤ c.toNat ∧ c.toNat ≤ 57) ⟨h2, h3⟩, if_pos (by simp only [List.length_cons]; omega), Int.toNat_natCast, number_ok (by simp only [List.length_take, List.length_cons]; omega)]
        simp only [R.bind_ok]
        by_cases h4 : (number ((c :: r).take (wl r + 1))).2 = true
        · rw [if_pos h4, if_pos h4, hput]
        · rw [if_neg h4, if_neg h4]
          rfl
      · rw [if_neg (by simp only [decide_eq_true_eq]; omega), if_neg (fun h => h3 h.2), Int.toNat_natCast, hput]
    · rw [if_neg (by omega)]
      simp only [R.bind_ok]
      rw [if_neg (by simp), if_neg (fun h => h2 h.1), Int.toNat_natCast, hput]
  · rw [if_neg h1, if_neg h1]
    have hq : (if (c.toNat : Int) = 34 then (R.ok true) else (R.ok (decide ((c.toNat : Int) = 39)))) = R.ok (decide (c = 34 ∨ c = 39)) := by
      by_cases c1 : c = 34
      · rw [if_pos ((show ((c.toNat : Int) = 34) ↔ c = 34 from byteN (n := 34) (by omega)).2 c1), decide_eq_true (.inl c1)]
      · rw [if_neg (fun h => c1 ((show ((c.toNat : Int) = 34) ↔ c = 34 from byteN (n := 34) (by omega)).1 h))]
        by_cases c2 : c = 39
        · rw [decide_eq_true ((show ((c.toNat : Int) = 39) ↔ c = 39 from byteN (n := 39) (by omega)).2 c2), decide_eq_true (.inr c2)]
        · rw [decide_eq_false (fun h => c2 ((show ((c.toNat : Int) = 39) ↔ c = 39 from byteN (n := 39) (by omega)).1 h)), decide_eq_false (fun h => h.elim c1 c2)]
    rw [hq]
    simp only [R.bind_ok]
    by_cases h2 : c = 34 ∨ c = 39
    · have hf := takeS_facts (c :: r)
      simp only [List.length_cons] at hf
      rw [if_pos (decide_eq_true h2), if_pos h2, take_ok (by simp only [List.length_cons]; omega)]
      simp only [R.bind_ok]
      by_cases h3 : (takeS (c :: r)).2.2 = 0
      · rw [if_pos h3, if_pos h3, put_ok hs (by omega) d f m l _ hdn hdl hl]
        rfl
      · have e : IntKind.wrap .i64 ((i : Int) + ((takeS (c :: r)).2.1 : Int)) = ((i + (takeS (c :: r)).2.1 : Nat) : Int) := by rw [wrap64 (by omega)]; omega
        rw [if_neg h3, if_neg h3, e]
    · rw [if_neg (by simp only [decide_eq_true_eq]; exact h2), if_neg h2, strings_IndexByte]
      simp only [R.bind_ok]
      show (if 0 ≤ Lib.indexByte signs c then _ else _) = _
      by_cases h3 : 0 ≤ Lib.indexByte signs c
      · rw [if_pos h3, if_pos h3, if_pos (by simp only [List.length_cons]; omega)]
        have hp := put_ok hs (i := i) (n := 1) (by omega) d f m l (S_api_Token.mk 4 (List.take 1 (c :: r)) 0 0 []) hdn hdl hl
        rw [show ((1 : Nat) : Int) = 1 from rfl] at hp
        rw [hp]
        rfl
      · rw [if_neg h3, if_neg h3]
        rfl

/-- The scan from a place on: the tokens, or where it is wrong. -/
def scanS : Nat → List UInt8 → Nat → List (List UInt8) → Bool → Bool → (Int × Int) ⊕ (List S_api_Token)
  | 0, _, _, _, _, _ => .inl (0, 0)
  | k + 1, r, i, d, f, m =>
    match bk r i d f m with
    | ([], i, d, f, m) => .inr [mkT (0, [], 0) i (dc f d [])]
    | (c :: t, i, d, f, m) =>
      if [47, 47].isPrefixOf (c :: t) = true then scanS k ((c :: t).drop (2 + (pre ((c :: t).drop 2)).length)) (i + 2 + (pre ((c :: t).drop 2)).length) (if f then d else d ++ [pre ((c :: t).drop 2) ++ [10]]) true (if f then m else true)
      else if [47, 42].isPrefixOf (c :: t) = true then
        (if (Lib.cut ((c :: t).drop 2) [42, 47]).2.2 = true then scanS k ((c :: t).drop (4 + (Lib.cut ((c :: t).drop 2) [42, 47]).1.length)) (i + 4 + (Lib.cut ((c :: t).drop 2) [42, 47]).1.length) [] true (if Lib.countByte (Lib.cut ((c :: t).drop 2) [42, 47]).1 10 = 0 then m else false)
         else .inl ((i : Int), 51))
      else match tokS (c :: t) with
        | .inl q => .inl (((i + q.1 : Nat) : Int), q.2)
        | .inr q => match scanS k ((c :: t).drop q.2) (i + q.2) [] true m with
          | .inl e => .inl e
          | .inr ts => .inr (mkT q.1 i (dc f d []) :: ts)
def fin (l : List S_api_Token) : (Int × Int) ⊕ (List S_api_Token) → List S_api_Token × Int × Int
  | .inl e => ([], e.1, e.2)
  | .inr ts => (l ++ ts, 0, 0)
theorem two_pre {a b : UInt8} {x : List UInt8} (h : [a, b].isPrefixOf x = true) : ∃ y, x = a :: b :: y := by
  obtain ⟨y, rfl⟩ := List.isPrefixOf_iff_prefix.1 h
  exact ⟨y, rfl⟩
theorem cut_len {t sub : List UInt8} (h : (Lib.cut t sub).2.2 = true) : (Lib.cut t sub).1.length + sub.length ≤ t.length := by
  unfold Lib.cut at h ⊢
  split at h
  · rename_i h0
    rw [if_pos h0]
    simp only [List.length_take]
    have key : ∀ (t : List UInt8), 0 ≤ Lib.index t sub → (Lib.index t sub).toNat + sub.length ≤ t.length := by
      intro t
      induction t with
      | nil =>
        intro h
        simp only [Lib.index] at h ⊢
        cases sub with
        | nil => simp
        | cons a b => simp at h
      | cons c t ih =>
        intro h
        unfold Lib.index at h ⊢
        split
        · rename_i hp
          obtain ⟨y, hy⟩ := List.isPrefixOf_iff_prefix.1 hp
          rw [← hy]
          simp
        · rename_i hp
          rw [if_neg hp] at h
          have hge := Lib.index_ge t sub
          split at h
          · omega
          · rename_i hz
            have hz' : Lib.index t sub ≠ -1 := by simpa using hz
            have := ih (by omega)
            rw [if_neg hz]
            simp only [List.length_cons]
            omega
    have := key t h0
    omega
  · cases h
theorem scan_loop {s : List UInt8} (hs : s.length ≤ 100000) (n : Nat) : ∀ (r : List UInt8) (k kk i : Nat) (d : List (List UInt8)) (f m : Bool) (l : List S_api_Token), r.length ≤ n → s.drop i = r → i ≤ s.length → n < k → n < kk → d.length ≤ i → dl d ≤ i → l.length ≤ i →
    lex_Scan_l0 s kk s (i : Int) d f m l = .ok (fin l (scanS k r i d f m)) := by
  induction n with
  | zero =>
    intro r k kk i d f m l hr hd hi hk hkk h1 h2 h3
    obtain rfl := List.eq_nil_of_length_eq_zero (by omega : r.length = 0)
    obtain ⟨k, rfl⟩ : ∃ k', k = k' + 1 := ⟨k - 1, by omega⟩
    obtain ⟨kk, rfl⟩ : ∃ k', kk = k' + 1 := ⟨kk - 1, by omega⟩
    have hsi : s.length ≤ i := List.drop_eq_nil_iff.1 hd
    rw [lex_Scan_l0, blanks_ok hs hi hd]
    simp only [R.sure_ok, R.bind_ok, scanS, bk]
    have hp := put_ok hs (i := i) (n := 0) (by omega) d f m l (S_api_Token.mk 0 [] 0 0 []) (by omega) (by omega) (by omega)
    rw [show ((0 : Nat) : Int) = 0 from rfl] at hp
    rw [if_pos (by omega), hp]
    rfl
  | succ n ih =>
    intro r k kk i d f m l hr hd hi hk hkk h1 h2 h3
    obtain ⟨k, rfl⟩ : ∃ k', k = k' + 1 := ⟨k - 1, by omega⟩
    obtain ⟨kk, rfl⟩ : ∃ k', kk = k' + 1 := ⟨kk - 1, by omega⟩
    rw [lex_Scan_l0, blanks_ok hs hi hd]
    simp only [R.sure_ok, R.bind_ok, scanS]
    obtain ⟨g1, g2, g3, g4, g5⟩ := bk_facts r s i d f m hd hi
    generalize bk r i d f m = b at g1 g2 g3 g4 g5 ⊢
    obtain ⟨r', i', d', f', m'⟩ := b
    simp only [] at g1 g2 g3 g4 g5 ⊢
    have hrl : r.length = s.length - i := by rw [← hd]; simp
    cases r' with
    | nil =>
      simp only [List.length_nil] at g2
      have hp := put_ok hs (i := i') (n := 0) (by omega) d' f' m' l (S_api_Token.mk 0 [] 0 0 []) (by omega) (by omega) (by omega)
      rw [show ((0 : Nat) : Int) = 0 from rfl] at hp
      rw [if_pos (by omega), hp]
      rfl
    | cons c t =>
      simp only [List.length_cons] at g2
      rw [if_neg (by omega), if_pos (by omega), Int.toNat_natCast, g1, hasPrefix_ok]
      simp only [R.bind_ok]
      by_cases c1 : [47, 47].isPrefixOf (c :: t) = true
      · obtain ⟨y, hy⟩ := two_pre c1
        rw [if_pos c1, if_pos c1]
        have hy2 : (c :: t).drop 2 = y := by rw [hy]; rfl
        have hyl : t.length = y.length + 1 := by have := congrArg List.length hy; simpa using this
        have hdy : s.drop (i' + 2) = y := by rw [← List.drop_drop, g1, hy2]
        have hp := pre_le y
        rw [short_ok hs (by omega) hdy d' f' m' l (by omega)]
        simp only [R.sure_ok, R.bind_ok]
        rw [hy2]
        refine ih _ k kk (i' + 2 + (pre y).length) _ _ _ l ?_ ?_ (by omega) (by omega) (by omega) ?_ ?_ (by omega)
        · simp only [List.length_drop, List.length_cons]; omega
        · rw [Nat.add_assoc, ← List.drop_drop, g1]
        · cases f'
          · simp only [Bool.false_eq_true, if_false, List.length_append, List.length_cons, List.length_nil]; omega
          · simp only [if_true]; omega
        · cases f'
          · simp only [Bool.false_eq_true, if_false, dl, List.flatten_append, List.length_append, List.flatten_cons, List.flatten_nil, List.length_cons, List.length_nil] at g5 ⊢; unfold dl at h2; omega
          · simp only [if_true]; omega
      · rw [if_neg c1, if_neg c1, if_pos (by omega), hasPrefix_ok]
        simp only [R.bind_ok]
        by_cases c2 : [47, 42].isPrefixOf (c :: t) = true
        · obtain ⟨y, hy⟩ := two_pre c2
          rw [if_pos c2, if_pos c2]
          have hy2 : (c :: t).drop 2 = y := by rw [hy]; rfl
          have hyl : t.length = y.length + 1 := by have := congrArg List.length hy; simpa using this
          have hdy : s.drop (i' + 2) = y := by rw [← List.drop_drop, g1, hy2]
          rw [long_ok hs (by omega) hdy d' f' m' l, hy2]
          simp only [R.sure_ok, R.bind_ok]
          by_cases c3 : (Lib.cut y [42, 47]).2.2 = true
          · have hcl := cut_len c3
            simp only [List.length_cons, List.length_nil] at hcl
            rw [if_pos c3, if_pos c3]
            simp only [if_true]
            refine ih _ k kk (i' + 4 + (Lib.cut y [42, 47]).1.length) _ _ _ l ?_ ?_ (by omega) (by omega) (by omega) (by simp) (by simp [dl]) (by omega)
            · simp only [List.length_drop, List.length_cons]; omega
            · rw [Nat.add_assoc, ← List.drop_drop, g1]
          · rw [if_neg c3, if_neg c3]
            simp only [Bool.false_eq_true, if_false]
            rfl
        · rw [if_neg c2, if_neg c2, token_ok hs g1 d' f' m' l (by omega) (by omega) (by omega)]
          simp only [R.sure_ok, R.bind_ok]
          cases ht : tokS (c :: t) with
          | inl q =>
            have := tokS_err (n := q.1) (e := q.2) ht
            simp only []
            rw [if_neg this]
            rfl
          | inr q =>
            have hq := tokS_ok (t := q.1) (n := q.2) ht
            simp only [List.length_cons] at hq
            simp only []
            rw [if_pos trivial, ih ((c :: t).drop q.2) k kk (i' + q.2) [] true m' _ (by simp only [List.length_drop, List.length_cons]; omega) (by rw [← List.drop_drop, g1]) (by omega) (by omega) (by omega) (by simp) (by simp [dl]) (by simp only [List.length_append, List.length_cons, List.length_nil]; omega)]
            congr 1
            cases scanS k ((c :: t).drop q.2) (i' + q.2) [] true m' with
            | inl e => rfl
            | inr ts => simp [fin]
/-- The whole scan. -/
def scan (s : List UInt8) : (Int × Int) ⊕ (List S_api_Token) := scanS (s.length + 1) s 0 [] false false
theorem scan_ok {s : List UInt8} (hs : s.length ≤ 100000) : lex_Scan s = .ok (fin [] (scan s)) := by
  unfold lex_Scan scan
  have h := scan_loop hs s.length s (s.length + 1) Many 0 [] false false [] (Nat.le_refl _) rfl (Nat.zero_le _) (by omega) (many_gt (by omega)) (by simp) (by simp [dl]) (by simp)
  rw [show ((0 : Nat) : Int) = 0 from rfl] at h
  rw [if_neg (by omega), h]
end Go.Proofs.Ytblbbmlppmpmjaa.Pv
