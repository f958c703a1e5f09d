/- A quoted text that is taken, as a plain function: it always ends; what is taken whole is taken so whatever stands behind. -/
import Derived.Test.YtblbbmlppmpmjaaLE
import Derived.Test.YtblbbmlppmpmjaaG7
set_option linter.unusedVariables false
set_option linter.unusedSimpArgs false
set_option maxRecDepth 20000
namespace Go.Proofs.Ytblbbmlppmpmjaa.Pv
open Go Go.Proofs

theorem pow_one16 (n : Nat) : (1 : Int) ≤ 16 ^ n := by
  have h : (0 : Int) < 16 ^ n := Int.pow_pos (by decide)
  generalize (16 : Int) ^ n = p at h
  omega
/-- So many digits, at most; their worth, how many. -/
def dg (b : Int) : Nat → List UInt8 → Int → Int × Nat
  | 0, _, v => (v, 0)
  | _ + 1, [], v => (v, 0)
  | n + 1, c :: r, v => if wd c < b then ((dg b n r (v * b + wd c)).1, (dg b n r (v * b + wd c)).2 + 1) else (v, 0)
theorem dg_le (b : Int) : ∀ (n : Nat) (r : List UInt8) (v : Int), (dg b n r v).2 ≤ n ∧ (dg b n r v).2 ≤ r.length
  | 0, _, v => ⟨Nat.le_refl _, Nat.zero_le _⟩
  | _ + 1, [], v => ⟨Nat.zero_le _, Nat.le_refl _⟩
  | n + 1, c :: r, v => by
    unfold dg
    split
    · have := dg_le b n r (v * b + wd c)
      simp only [List.length_cons]
      omega
    · exact ⟨Nat.zero_le _, Nat.zero_le _⟩
theorem dg_more (b : Int) (y : List UInt8) : ∀ (n : Nat) (r : List UInt8) (v : Int), (dg b n r v).2 < r.length ∨ (dg b n r v).2 = n → dg b n (r ++ y) v = dg b n r v
  | 0, r, v, _ => by cases r <;> rfl
  | n + 1, [], v, h => by simp [dg] at h
  | n + 1, c :: r, v, h => by
    simp only [List.cons_append]
    unfold dg at h ⊢
    split
    · rename_i hc
      rw [if_pos hc] at h
      simp only [List.length_cons] at h
      rw [dg_more b y n r _ (by omega)]
    · rfl
theorem dg_val {b : Int} (hb : b = 8 ∨ b = 16) : ∀ (n : Nat) (r : List UInt8) (v : Int), 0 ≤ v → (v + 1) * 16 ^ n ≤ 4294967296 → 0 ≤ (dg b n r v).1 ∧ (dg b n r v).1 ≤ 4294967295
  | 0, _, v, h0, h => by simp only [dg, Int.pow_zero, Int.mul_one] at h ⊢; omega
  | n + 1, [], v, h0, h => by
    simp only [dg]
    have h1 : (1 : Int) ≤ 16 ^ (n + 1) := pow_one16 _
    have h2 : (v + 1) * 1 ≤ (v + 1) * 16 ^ (n + 1) := Int.mul_le_mul_of_nonneg_left h1 (by omega)
    omega
  | n + 1, c :: r, v, h0, h => by
    unfold dg
    have hw := (wd_all c).2
    split
    · rename_i hc
      refine dg_val hb n r _ ?_ ?_
      · rcases hb with rfl | rfl <;> omega
      · have h1 : v * b + wd c + 1 ≤ (v + 1) * 16 := by rcases hb with rfl | rfl <;> omega
        have h2 : (0 : Int) ≤ 16 ^ n := Int.le_of_lt (Int.pow_pos (by decide))
        have h3 := Int.mul_le_mul_of_nonneg_right h1 h2
        rw [Int.mul_assoc, ← Int.pow_succ'] at h3
        omega
    · have h1 : (1 : Int) ≤ 16 ^ (n + 1) := pow_one16 _
      have h2 : (v + 1) * 1 ≤ (v + 1) * 16 ^ (n + 1) := Int.mul_le_mul_of_nonneg_left h1 (by omega)
      simp only []
      omega
theorem digits_loop {x : List UInt8} (hx : x.length ≤ 100000) {b : Int} (hb : b = 8 ∨ b = 16) {m : Nat} (hm : m ≤ 8) : ∀ (n k i : Nat) (r : List UInt8) (v : Int), i + n = m → x.drop i = r → i ≤ x.length → n < k → 0 ≤ v → (v + 1) * 16 ^ n ≤ 4294967296 →
    quote_digits_l1 x b (m : Int) k v (i : Int) = .ok ((dg b n r v).1, ((i + (dg b n r v).2 : Nat) : Int))
  | 0, k, i, r, v, hi, hd, hil, hk, h0, h => by
    obtain ⟨k, rfl⟩ : ∃ k', k = k' + 1 := ⟨k - 1, by omega⟩
    rw [quote_digits_l1, if_neg (c := (i : Int) < _) (by split <;> omega)]
    simp only [R.bind_ok, dg, Nat.add_zero]
    rfl
  | n + 1, k, i, [], v, hi, hd, hil, hk, h0, h => by
    obtain ⟨k, rfl⟩ : ∃ k', k = k' + 1 := ⟨k - 1, by omega⟩
    have hl : x.length ≤ i := List.drop_eq_nil_iff.1 hd
    rw [quote_digits_l1, if_neg (c := (i : Int) < _) (by split <;> omega)]
    simp only [R.bind_ok, dg, Nat.add_zero]
    rfl
  | n + 1, k, i, c :: r, v, hi, hd, hil, hk, h0, h => by
    obtain ⟨k, rfl⟩ : ∃ k', k = k' + 1 := ⟨k - 1, by omega⟩
    have hlt : i < x.length := by
      rcases Nat.lt_or_ge i x.length with h | h
      · exact h
      · rw [List.drop_eq_nil_of_le h] at hd; cases hd
    rw [drop_at hlt] at hd
    injection hd with h1 h2
    have hg : List.getD x (Int.toNat (i : Int)) 0 = c := by rw [Int.toNat_natCast, getD_at hlt, h1]
    have hw := (wd_all c).2
    have hv : v ≤ 4294967295 := by
      have h1 : (1 : Int) ≤ 16 ^ (n + 1) := pow_one16 _
      have h2 : (v + 1) * 1 ≤ (v + 1) * 16 ^ (n + 1) := Int.mul_le_mul_of_nonneg_left h1 (by omega)
      omega
    rw [quote_digits_l1, if_pos (c := (i : Int) < _) (by split <;> omega), if_pos (by omega), hg, worth_ok]
    simp only [R.bind_ok]
    unfold dg
    by_cases hc : wd c < b
    · rw [if_pos (decide_eq_true hc), if_pos hc, if_pos (by omega)]
      have hvb : 0 ≤ v * b ∧ v * b ≤ 100000000000 := by rcases hb with rfl | rfl <;> omega
      rw [wrap64 (n := v * b) (by omega), wrap64 (by omega), next64 (by omega)]
      have hn1 : (v * b + wd c + 1) * 16 ^ n ≤ 4294967296 := by
        have h1 : v * b + wd c + 1 ≤ (v + 1) * 16 := by rcases hb with rfl | rfl <;> omega
        have h2 : (0 : Int) ≤ 16 ^ n := Int.le_of_lt (Int.pow_pos (by decide))
        have h3 := Int.mul_le_mul_of_nonneg_right h1 h2
        rw [Int.mul_assoc, ← Int.pow_succ'] at h3
        omega
      rw [digits_loop hx hb hm n k (i + 1) r _ (by omega) h2 (by omega) (by omega) (by omega) hn1]
      congr 2
      omega
    · rw [if_neg (by simp only [decide_eq_true_eq]; exact hc), if_neg hc]
      rfl
theorem digits_ok {x : List UInt8} (hx : x.length ≤ 100000) {b : Int} (hb : b = 8 ∨ b = 16) {m : Nat} (hm : m ≤ 8) : quote_digits x b (m : Int) = .ok ((dg b m x 0).1, ((dg b m x 0).2 : Int)) := by
  unfold quote_digits
  have h1 : ∀ m : Nat, m ≤ 8 → ((0 : Int) + 1) * 16 ^ m ≤ 4294967296 := by decide
  have h := digits_loop hx hb hm m Many 0 x 0 (by omega) rfl (by omega) (many_gt (by omega)) (by omega) (h1 m hm)
  rw [show ((0 : Nat) : Int) = 0 from rfl] at h
  rw [h]
  simp only [R.bind_ok, quote_digits_j0, Nat.zero_add]

/-! ### a sign's bytes -/
theorem utf_loop {n : Nat} (hn : n ≤ 4) : ∀ (j k : Nat) (x : Int) (o : List UInt8), o.length = n → j < n → j < k → ∃ x' o', utf_Put_l1 (n : Int) k x (j : Int) o = .ok (x', o') ∧ o'.length = n
  | 0, k, x, o, ho, hj, hk => by
    obtain ⟨k, rfl⟩ : ∃ k', k = k' + 1 := ⟨k - 1, by omega⟩
    exact ⟨x, o, by rw [utf_Put_l1, if_neg (by omega)], ho⟩
  | j + 1, k, x, o, ho, hj, hk => by
    obtain ⟨k, rfl⟩ : ∃ k', k = k' + 1 := ⟨k - 1, by omega⟩
    rw [utf_Put_l1, if_pos (by omega), if_pos (by omega), if_pos (by omega)]
    have e : IntKind.wrap .i64 (((j + 1 : Nat) : Int) - 1) = (j : Int) := by rw [wrap64 (by omega)]; omega
    rw [e]
    exact utf_loop hn j k _ _ (by simp [ho]) (by omega) (by omega)
theorem put_j2 {n : Nat} (h1 : 1 ≤ n) (hn : n ≤ 4) (x : Int) : ∃ l, utf_Put_j2 x (n : Int) = .ok l ∧ l.length ≤ 4 := by
  unfold utf_Put_j2
  have e : IntKind.wrap .i64 ((n : Int) - 1) = ((n - 1 : Nat) : Int) := by rw [wrap64 (by omega)]; omega
  rw [if_pos (by omega), e, Int.toNat_natCast]
  obtain ⟨x', o', h, ho⟩ := utf_loop hn (n - 1) Many x (List.replicate n 0) (by simp) (by omega) (many_gt (by omega))
  rw [h]
  simp only [R.bind_ok, utf_Put_j0]
  rw [if_pos (by rw [wrap64 (by omega)]; omega), if_pos (by omega), if_pos (by omega), if_pos (by simp only [List.length_set]; omega)]
  exact ⟨_, rfl, by simp only [List.length_take, List.length_set]; omega⟩
theorem put_total (x : Int) : ∃ l, utf_Put x = .ok l ∧ l.length ≤ 4 := by
  unfold utf_Put
  generalize hb : (if x < 0 then (R.ok true) else (if (1114111 : Int) < x then (R.ok true) else (R.ok (decide ((Int.fdiv x (2 ^ (min 11 32))) = 27))))) = rb
  obtain ⟨b, rfl⟩ : ∃ b, rb = .ok b := by
    subst hb
    split
    · exact ⟨_, rfl⟩
    · split <;> exact ⟨_, rfl⟩
  simp only [R.bind_ok]
  split
  · exact ⟨_, rfl, by simp⟩
  · split
    · exact ⟨_, rfl, by simp⟩
    · split
      · exact put_j2 (n := 2) (by omega) (by omega) x
      · split
        · exact put_j2 (n := 3) (by omega) (by omega) x
        · exact put_j2 (n := 4) (by omega) (by omega) x
def putS (v : Int) : List UInt8 := ((utf_Put (IntKind.wrap .i32 v)).got).getD []
theorem putS_ok (v : Int) : utf_Put (IntKind.wrap .i32 v) = .ok (putS v) ∧ (putS v).length ≤ 4 := by
  obtain ⟨l, h, hl⟩ := put_total (IntKind.wrap .i32 v)
  have e : putS v = l := by unfold putS; rw [h]; rfl
  rw [e]
  exact ⟨h, hl⟩

/-! ### what stands behind \ -/
def es1 (r : List UInt8) (n : Nat) : List UInt8 × Nat :=
  if (dg 16 n r 0).2 = n ∧ 0 < (putS (dg 16 n r 0).1).length ∧ (dg 16 n r 0).1 ≤ 1114111 then (putS (dg 16 n r 0).1, n + 1) else ([], 0)
def sg : List UInt8 := [97, 98, 102, 110, 114, 116, 118, 92, 39, 34, 63]
def escS : List UInt8 → List UInt8 × Nat
  | [] => ([], 0)
  | c :: r =>
    if 0 ≤ Lib.indexByte sg c then ([List.getD [7, 8, 12, 10, 13, 9, 11, 92, 39, 34, 63] (Int.toNat (Lib.indexByte sg c)) 0], 1)
    else if c = 120 ∨ c = 88 then (if (dg 16 2 r 0).2 = 0 then ([], 0) else ([u8 (IntKind.wrap .u8 (dg 16 2 r 0).1)], (dg 16 2 r 0).2 + 1))
    else if c = 117 then es1 r 4
    else if c = 85 then es1 r 8
    else if 255 < (dg 8 3 (c :: r) 0).1 then ([], 0) else ([u8 (IntKind.wrap .u8 (dg 8 3 (c :: r) 0).1)], (dg 8 3 (c :: r) 0).2)
theorem escS_cons (c : UInt8) (r : List UInt8) : escS (c :: r) =
    if 0 ≤ Lib.indexByte sg c then ([List.getD [7, 8, 12, 10, 13, 9, 11, 92, 39, 34, 63] (Int.toNat (Lib.indexByte sg c)) 0], 1)
    else if c = 120 ∨ c = 88 then (if (dg 16 2 r 0).2 = 0 then ([], 0) else ([u8 (IntKind.wrap .u8 (dg 16 2 r 0).1)], (dg 16 2 r 0).2 + 1))
    else if c = 117 then es1 r 4
    else if c = 85 then es1 r 8
    else if 255 < (dg 8 3 (c :: r) 0).1 then ([], 0) else ([u8 (IntKind.wrap .u8 (dg 8 3 (c :: r) 0).1)], (dg 8 3 (c :: r) 0).2) := rfl
theorem sg_lt (c : UInt8) : Lib.indexByte sg c < 11 := by
  have h : ∀ i : Fin 256, Lib.indexByte sg (UInt8.ofNat i.val) < 11 := by decide +kernel
  exact bytes_all (p := fun c => Lib.indexByte sg c < 11) h c
theorem es1_le (r : List UInt8) (n : Nat) : (es1 r n).2 ≤ r.length + 1 ∧ (es1 r n).1.length ≤ 4 := by
  unfold es1
  have := dg_le 16 n r 0
  have := (putS_ok (dg 16 n r 0).1).2
  split
  · simp only []; omega
  · simp
theorem escS_le (x : List UInt8) : (escS x).2 ≤ x.length ∧ (escS x).1.length ≤ 4 := by
  cases x with
  | nil => simp [escS]
  | cons c r =>
    have h1 := dg_le 16 2 r 0
    have h2 := dg_le 8 3 (c :: r) 0
    have h4 := es1_le r 4
    have h8 := es1_le r 8
    rw [escS_cons]
    simp only [List.length_cons] at h2 ⊢
    split
    · simp
    · split
      · split
        · simp
        · simp only [List.length_cons, List.length_nil]; omega
      · split
        · exact h4
        · split
          · exact h8
          · split
            · simp
            · simp only [List.length_cons, List.length_nil]; omega
theorem es1_more (r y : List UInt8) (n : Nat) (h : (es1 r n).2 ≠ 0) : es1 (r ++ y) n = es1 r n := by
  unfold es1 at h ⊢
  split at h
  · rename_i hc
    rw [dg_more 16 y n r 0 (.inr hc.1)]
  · exact absurd rfl h
theorem escS_more (x y : List UInt8) (h : (escS x).2 ≠ 0) (hl : (escS x).2 < x.length) : escS (x ++ y) = escS x := by
  cases x with
  | nil => simp [escS] at h
  | cons c r =>
    simp only [List.cons_append]
    rw [escS_cons] at h hl ⊢
    rw [escS_cons]
    simp only [List.length_cons] at hl
    split
    · rfl
    · rename_i hi
      rw [if_neg hi] at h hl
      split
      · rename_i hx
        rw [if_pos hx] at h hl
        split at h
        · exact absurd rfl h
        · rename_i hz
          rw [if_neg hz] at hl
          simp only [] at hl
          rw [dg_more 16 y 2 r 0 (.inl (by omega))]
      · rename_i hx
        rw [if_neg hx] at h hl
        split
        · rename_i hu
          rw [if_pos hu] at h
          exact es1_more r y 4 h
        · rename_i hu
          rw [if_neg hu] at h hl
          split
          · rename_i hv
            rw [if_pos hv] at h
            exact es1_more r y 8 h
          · rename_i hv
            rw [if_neg hv] at h hl
            split at h
            · exact absurd rfl h
            · rename_i hz
              rw [if_neg hz] at hl
              simp only [] at hl
              have := dg_more 8 y 3 (c :: r) 0 (.inl (by simp only [List.length_cons]; omega))
              simp only [List.cons_append] at this
              rw [this]
theorem byteN {c : UInt8} {n : Nat} (hn : n < 256) : ((c.toNat : Int) = (n : Int)) ↔ c = UInt8.ofNat n := ⟨fun h => UInt8.toNat_inj.1 (by rw [toNat_ofNat_lt hn]; omega), fun h => by rw [h, toNat_ofNat_lt hn]⟩
theorem esc1_ok {x : List UInt8} (h0 : x ≠ []) (hx : x.length ≤ 100000) {n : Nat} (hn : n = 4 ∨ n = 8) : quote_escaped_1 x (n : Int) = .ok ((es1 (x.drop 1) n).1, ((es1 (x.drop 1) n).2 : Int)) := by
  have hl : 0 < x.length := List.length_pos_iff.2 h0
  unfold quote_escaped_1 es1
  rw [if_pos (by omega), digits_ok (by simp; omega) (.inr rfl) (by omega)]
  simp only [R.bind_ok]
  have hp := putS_ok (dg 16 n (x.drop 1) 0).1
  rw [hp.1]
  simp only [R.bind_ok]
  have hle := dg_le 16 n (x.drop 1) 0
  by_cases c1 : (dg 16 n (x.drop 1) 0).2 = n
  · rw [if_pos (by omega)]
    by_cases c2 : 0 < (putS (dg 16 n (x.drop 1) 0).1).length
    · rw [if_pos (by omega)]
      simp only [R.bind_ok]
      by_cases c3 : (dg 16 n (x.drop 1) 0).1 ≤ 1114111
      · rw [if_pos (decide_eq_true c3), if_pos ⟨c1, c2, c3⟩, next64 (by omega), c1]
      · rw [if_neg (by simp only [decide_eq_true_eq]; exact c3), if_neg (fun h => c3 h.2.2)]
        rfl
    · rw [if_neg (by omega)]
      simp only [R.bind_ok]
      rw [if_neg (by decide), if_neg (fun h => c2 h.2.1)]
      rfl
  · rw [if_neg (by omega)]
    simp only [R.bind_ok]
    rw [if_neg (by decide), if_neg (fun h => c1 h.1)]
    rfl
theorem escaped_ok {x : List UInt8} (hx : x.length ≤ 100000) : quote_escaped x = .ok ((escS x).1, ((escS x).2 : Int)) := by
  cases x with
  | nil => rfl
  | cons c r =>
    have hr : r.length ≤ 100000 := by simp only [List.length_cons] at hx; omega
    have hg : List.getD (c :: r) 0 0 = c := rfl
    have hp : 0 ≤ 0 ∧ (0 : Int) < (List.length (c :: r) : Int) := by simp only [List.length_cons]; omega
    have hp1 : 0 ≤ 1 ∧ (1 : Int) ≤ (List.length (c :: r) : Int) := by simp only [List.length_cons]; omega
    have hi := sg_lt c
    unfold quote_escaped
    rw [escS_cons, if_neg (by simp), if_pos hp, hg, strings_IndexByte]
    simp only [R.bind_ok]
    show (if 0 ≤ Lib.indexByte sg c then _ else _) = _
    by_cases h1 : 0 ≤ Lib.indexByte sg c
    · rw [if_pos h1, if_pos h1, if_pos (by simp only [sg, List.length_cons, List.length_nil] at hi ⊢; exact ⟨h1, hi⟩)]
      rfl
    · rw [if_neg h1, if_neg h1]
      have jd : ∀ b : Bool, quote_escaped_j0 (c :: r) b = .ok (if b = true then (if (dg 16 2 r 0).2 = 0 then ([], 0) else ([u8 (IntKind.wrap .u8 (dg 16 2 r 0).1)], (((dg 16 2 r 0).2 + 1 : Nat) : Int)))
          else if c = 117 then ((es1 r 4).1, ((es1 r 4).2 : Int)) else if c = 85 then ((es1 r 8).1, ((es1 r 8).2 : Int)) else if 255 < (dg 8 3 (c :: r) 0).1 then ([], 0) else ([u8 (IntKind.wrap .u8 (dg 8 3 (c :: r) 0).1)], ((dg 8 3 (c :: r) 0).2 : Int))) := by
        intro b
        unfold quote_escaped_j0
        have d1 := digits_ok (x := r) hr (b := 16) (.inr rfl) (m := 2) (by omega)
        have d2 := digits_ok (x := c :: r) hx (b := 8) (.inl rfl) (m := 3) (by omega)
        have e4 := esc1_ok (x := c :: r) (by simp) hx (n := 4) (.inl rfl)
        have e8 := esc1_ok (x := c :: r) (by simp) hx (n := 8) (.inr rfl)
        simp only [List.drop_succ_cons, List.drop_zero, Int.cast_ofNat_Int] at d1 d2 e4 e8
        have hle := dg_le 16 2 r 0
        cases b
        · simp only [Bool.false_eq_true, if_false]
          rw [hg]
          have b1 : ((c.toNat : Int) = 117) ↔ c = 117 := byteN (n := 117) (by omega)
          have b2 : ((c.toNat : Int) = 85) ↔ c = 85 := byteN (n := 85) (by omega)
          by_cases c1 : c = 117
          · rw [if_pos (b1.2 c1), if_pos c1, e4]; rfl
          · rw [if_neg (fun h => c1 (b1.1 h)), if_neg c1]
            by_cases c2 : c = 85
            · rw [if_pos (b2.2 c2), if_pos c2, e8]; rfl
            · rw [if_neg (fun h => c2 (b2.1 h)), if_neg c2, d2]
              simp only [R.bind_ok]
              split <;> rfl
        · rw [if_pos rfl, if_pos rfl, if_pos hp1]
          simp only [List.drop_succ_cons, List.drop_zero]
          rw [d1]
          simp only [R.bind_ok]
          by_cases c1 : (dg 16 2 r 0).2 = 0
          · rw [if_pos (by omega), if_pos c1]
          · rw [if_neg (by omega), if_neg c1, next64 (by omega)]
      have b1 : ((c.toNat : Int) = 120) ↔ c = 120 := byteN (n := 120) (by omega)
      have b2 : ((c.toNat : Int) = 88) ↔ c = 88 := byteN (n := 88) (by omega)
      rw [if_pos hp, jd, jd]
      by_cases c1 : c = 120
      · rw [if_pos (b1.2 c1), decide_eq_true (b1.2 c1), if_pos rfl, if_pos (c := c = 120 ∨ c = 88) (.inl c1)]
        by_cases hz : (dg 16 2 r 0).2 = 0
        · rw [if_pos hz, if_pos hz]; rfl
        · rw [if_neg hz, if_neg hz]
      · rw [if_neg (fun h => c1 (b1.1 h))]
        by_cases c2 : c = 88
        · rw [decide_eq_true (b2.2 c2), if_pos rfl, if_pos (c := c = 120 ∨ c = 88) (.inr c2)]
          by_cases hz : (dg 16 2 r 0).2 = 0
          · rw [if_pos hz, if_pos hz]; rfl
          · rw [if_neg hz, if_neg hz]
        · rw [decide_eq_false (fun h => c2 (b2.1 h)), if_neg (c := c = 120 ∨ c = 88) (fun h => h.elim c1 c2)]
          simp only [Bool.false_eq_true, if_false]
          by_cases a1 : c = 117
          · rw [if_pos a1, if_pos a1]
          · rw [if_neg a1, if_neg a1]
            by_cases a2 : c = 85
            · rw [if_pos a2, if_pos a2]
            · rw [if_neg a2, if_neg a2]
              by_cases a3 : 255 < (dg 8 3 (c :: r) 0).1
              · rw [if_pos a3, if_pos a3]; rfl
              · rw [if_neg a3, if_neg a3]

/-! ### the whole -/
def takeL (q : UInt8) (x : List UInt8) (acc : List UInt8) (i : Nat) : List UInt8 × Nat × Int :=
  match x with
  | [] => ([], i, 40)
  | c :: r =>
    if c = q then (acc, i + 1, 0)
    else if c = 0 ∨ c = 10 then ([], i, 40)
    else if c = 92 then (if (escS r).2 = 0 then ([], i, 40) else takeL q (r.drop (escS r).2) (acc ++ (escS r).1) (i + ((escS r).2 + 1)))
    else takeL q r (acc ++ [c]) (i + 1)
termination_by x.length
decreasing_by
  · simp only [List.length_drop, List.length_cons]; omega
  · simp
theorem takeL_facts (q : UInt8) (n : Nat) : ∀ (x acc : List UInt8) (i : Nat), x.length ≤ n → ((takeL q x acc i).2.2 = 0 ∧ i + 1 ≤ (takeL q x acc i).2.1 ∧ (takeL q x acc i).2.1 ≤ i + x.length ∨ (takeL q x acc i).2.2 = 40 ∧ (takeL q x acc i).2.1 ≤ i + x.length) := by
  induction n with
  | zero =>
    intro x acc i hx
    obtain rfl := List.eq_nil_of_length_eq_zero (by omega : x.length = 0)
    rw [takeL]
    exact .inr ⟨rfl, by simp⟩
  | succ n ih =>
    intro x acc i hx
    cases x with
    | nil => rw [takeL]; exact .inr ⟨rfl, by simp⟩
    | cons c r =>
      simp only [List.length_cons] at hx ⊢
      rw [takeL]
      split
      · exact .inl ⟨rfl, by simp, by simp only []; omega⟩
      · split
        · exact .inr ⟨rfl, by simp only []; omega⟩
        · split
          · split
            · exact .inr ⟨rfl, by simp only []; omega⟩
            · have hle := escS_le r
              have := ih (r.drop (escS r).2) (acc ++ (escS r).1) (i + ((escS r).2 + 1)) (by simp only [List.length_drop]; omega)
              simp only [List.length_drop] at this
              omega
          · have := ih r (acc ++ [c]) (i + 1) (by omega)
            omega
theorem takeL_more (q : UInt8) (y : List UInt8) (n : Nat) : ∀ (x acc : List UInt8) (i : Nat), x.length ≤ n → (takeL q x acc i).2.2 = 0 → takeL q (x ++ y) acc i = takeL q x acc i := by
  induction n with
  | zero =>
    intro x acc i hx h
    obtain rfl := List.eq_nil_of_length_eq_zero (by omega : x.length = 0)
    rw [takeL] at h; cases h
  | succ n ih =>
    intro x acc i hx h
    cases x with
    | nil => rw [takeL] at h; cases h
    | cons c r =>
      simp only [List.length_cons] at hx
      simp only [List.cons_append]
      rw [takeL] at h
      rw [takeL, takeL]
      split
      · rfl
      · rename_i h1
        rw [if_neg h1] at h
        split
        · rfl
        · rename_i h2
          rw [if_neg h2] at h
          split
          · rename_i h3
            rw [if_pos h3] at h
            by_cases h4 : (escS r).2 = 0
            · rw [if_pos h4] at h; cases h
            · rw [if_neg h4] at h
              have hle := escS_le r
              have hlt : (escS r).2 < r.length := by
                rcases Nat.lt_or_ge (escS r).2 r.length with h' | h'
                · exact h'
                · rw [List.drop_eq_nil_of_le h', takeL] at h; cases h
              rw [escS_more r y h4 hlt, if_neg h4, if_neg h4, List.drop_append_of_le_length (by omega)]
              exact ih _ _ _ (by simp only [List.length_drop]; omega) h
          · rename_i h3
            rw [if_neg h3] at h
            exact ih _ _ _ (by omega) h
theorem take_loop {x0 : List UInt8} (hx : x0.length ≤ 100000) (h0 : x0 ≠ []) (n : Nat) : ∀ (r acc : List UInt8) (k i : Nat), r.length ≤ n → x0.drop i = r → i ≤ x0.length → n < k → acc.length ≤ 4 * i →
    quote_Take_l0 x0 k acc (i : Int) = .ok ((takeL (x0.getD 0 0) r acc i).1, ((takeL (x0.getD 0 0) r acc i).2.1 : Int), (takeL (x0.getD 0 0) r acc i).2.2) := by
  have hl0 : 0 < x0.length := List.length_pos_iff.2 h0
  induction n with
  | zero =>
    intro r acc k i hr hd hi hk ha
    obtain ⟨k, rfl⟩ : ∃ k', k = k' + 1 := ⟨k - 1, by omega⟩
    obtain rfl := List.eq_nil_of_length_eq_zero (by omega : r.length = 0)
    have : x0.length ≤ i := List.drop_eq_nil_iff.1 hd
    rw [quote_Take_l0, if_pos (by omega), takeL]
  | succ n ih =>
    intro r acc k i hr hd hi hk ha
    obtain ⟨k, rfl⟩ : ∃ k', k = k' + 1 := ⟨k - 1, by omega⟩
    cases r with
    | nil =>
      have : x0.length ≤ i := List.drop_eq_nil_iff.1 hd
      rw [quote_Take_l0, if_pos (by omega), takeL]
    | cons c r =>
      have hlt : i < x0.length := by
        rcases Nat.lt_or_ge i x0.length with h | h
        · exact h
        · rw [List.drop_eq_nil_of_le h] at hd; cases hd
      rw [drop_at hlt] at hd
      injection hd with e1 e2
      simp only [List.length_cons] at hr
      have hg : List.getD x0 (Int.toNat (i : Int)) 0 = c := by rw [Int.toNat_natCast, getD_at hlt, e1]
      rw [quote_Take_l0, if_neg (by omega), if_pos (by omega), if_pos (by omega), hg, takeL]
      by_cases c1 : c = x0.getD 0 0
      · rw [if_pos (by rw [c1]), if_pos c1, next64 (by omega)]
      · rw [if_neg (fun h => c1 (UInt8.toNat_inj.1 (by omega))), if_neg c1]
        have hrl : i + 1 + r.length = x0.length := by rw [← e2]; simp; omega
        have j1 : ∀ b : Bool, quote_Take_j1 (quote_Take_l0 x0 k) x0 acc (i : Int) b = .ok (if b = true then ([], (i : Int), 40) else
            (let z := if c = 92 then (if (escS r).2 = 0 then ([], i, 40) else takeL (x0.getD 0 0) (r.drop (escS r).2) (acc ++ (escS r).1) (i + ((escS r).2 + 1))) else takeL (x0.getD 0 0) r (acc ++ [c]) (i + 1); (z.1, (z.2.1 : Int), z.2.2))) := by
          intro b
          unfold quote_Take_j1
          cases b
          · simp only [Bool.false_eq_true, if_false]
            rw [hg]
            by_cases c2 : c = 92
            · rw [if_pos ((show ((c.toNat : Int) = 92) ↔ c = 92 from byteN (n := 92) (by omega)).2 c2), if_pos c2, next64 (by omega), if_pos (by omega), Int.toNat_natCast, e2, escaped_ok (by omega)]
              simp only [R.bind_ok]
              have hle := escS_le r
              by_cases c3 : (escS r).2 = 0
              · rw [if_pos (by omega), if_pos c3]
              · rw [if_neg (by omega), if_neg c3, if_pos (by omega), next64 (by omega)]
                have e3 : IntKind.wrap .i64 ((i : Int) + (((escS r).2 + 1 : Nat) : Int)) = ((i + ((escS r).2 + 1) : Nat) : Int) := by rw [wrap64 (by omega)]; omega
                rw [e3, ih (r.drop (escS r).2) _ k _ (by simp only [List.length_drop]; omega) (by rw [← e2, List.drop_drop]; congr 1; omega) (by omega) (by omega) (by simp only [List.length_append]; omega)]
            · rw [if_neg (fun h => c2 ((show ((c.toNat : Int) = 92) ↔ c = 92 from byteN (n := 92) (by omega)).1 h)), if_neg c2, if_pos (by simp only [List.length_cons, List.length_nil]; omega), next64 (by omega), ih r _ k (i + 1) (by omega) e2 (by omega) (by omega) (by simp only [List.length_append, List.length_cons, List.length_nil]; omega)]
          · rfl
        rw [j1, j1]
        have b0 : ((c.toNat : Int) = 0) ↔ c = 0 := byteN (n := 0) (by omega)
        have b10 : ((c.toNat : Int) = 10) ↔ c = 10 := byteN (n := 10) (by omega)
        by_cases c2 : c = 0
        · rw [if_pos (b0.2 c2), decide_eq_true (b0.2 c2), if_pos rfl, if_pos (c := c = 0 ∨ c = 10) (.inl c2)]
        · rw [if_neg (fun h => c2 (b0.1 h))]
          by_cases c3 : c = 10
          · rw [decide_eq_true (b10.2 c3), if_pos rfl, if_pos (c := c = 0 ∨ c = 10) (.inr c3)]
          · rw [decide_eq_false (fun h => c3 (b10.1 h)), if_neg (c := c = 0 ∨ c = 10) (fun h => h.elim c2 c3)]
            rfl
/-- A text at whose head a quote stands. -/
def takeS : List UInt8 → List UInt8 × Nat × Int
  | [] => ([], 0, 40)
  | c :: r => if c = 34 ∨ c = 39 then takeL c r [] 1 else ([], 0, 40)
theorem takeS_cons (c : UInt8) (r : List UInt8) : takeS (c :: r) = if c = 34 ∨ c = 39 then takeL c r [] 1 else ([], 0, 40) := rfl
theorem take_ok {x : List UInt8} (hx : x.length ≤ 100000) : quote_Take x = .ok ((takeS x).1, ((takeS x).2.1 : Int), (takeS x).2.2) := by
  cases x with
  | nil => rfl
  | cons c r =>
    have hp : 0 ≤ 0 ∧ (0 : Int) < (List.length (c :: r) : Int) := by simp only [List.length_cons]; omega
    have hg : List.getD (c :: r) 0 0 = c := rfl
    have hl := take_loop hx (by simp) r.length r [] Many 1 (Nat.le_refl _) rfl (by simp) (many_gt (by simp only [List.length_cons] at hx; omega)) (by simp)
    rw [hg] at hl
    rw [show ((1 : Nat) : Int) = 1 from rfl] at hl
    have b34 : ((c.toNat : Int) = 34) ↔ c = 34 := byteN (n := 34) (by omega)
    have b39 : ((c.toNat : Int) = 39) ↔ c = 39 := byteN (n := 39) (by omega)
    rw [takeS_cons]
    unfold quote_Take
    rw [if_neg (by simp), if_pos hp, hg]
    by_cases c1 : c = 34
    · rw [if_pos (b34.2 c1)]
      simp only [R.bind_ok, Bool.false_eq_true, if_false]
      rw [if_pos (c := c = 34 ∨ c = 39) (.inl c1), hl]
    · rw [if_neg (fun h => c1 (b34.1 h)), if_pos hp]
      simp only [R.bind_ok]
      by_cases c2 : c = 39
      · rw [decide_eq_true (b39.2 c2)]
        simp only [Bool.not_true, Bool.false_eq_true, if_false]
        rw [if_pos (c := c = 34 ∨ c = 39) (.inr c2), hl]
      · rw [decide_eq_false (fun h => c2 (b39.1 h))]
        simp only [Bool.not_false, if_true]
        rw [if_neg (c := c = 34 ∨ c = 39) (fun h => h.elim c1 c2)]
        rfl
theorem takeS_facts (x : List UInt8) : ((takeS x).2.2 = 0 ∧ 2 ≤ (takeS x).2.1 ∧ (takeS x).2.1 ≤ x.length) ∨ ((takeS x).2.2 = 40 ∧ (takeS x).2.1 ≤ x.length) := by
  cases x with
  | nil => exact .inr ⟨rfl, Nat.le_refl _⟩
  | cons c r =>
    rw [takeS_cons]
    simp only [List.length_cons]
    split
    · have := takeL_facts c r.length r [] 1 (Nat.le_refl _)
      omega
    · exact .inr ⟨rfl, Nat.zero_le _⟩
theorem takeS_more (x y : List UInt8) (h : (takeS x).2.2 = 0) : takeS (x ++ y) = takeS x := by
  cases x with
  | nil => cases h
  | cons c r =>
    simp only [List.cons_append]
    rw [takeS_cons] at h ⊢
    rw [takeS_cons]
    split
    · rename_i hc
      rw [if_pos hc] at h
      exact takeL_more c y r.length r [] 1 (Nat.le_refl _) h
    · rfl
end Go.Proofs.Ytblbbmlppmpmjaa.Pv
