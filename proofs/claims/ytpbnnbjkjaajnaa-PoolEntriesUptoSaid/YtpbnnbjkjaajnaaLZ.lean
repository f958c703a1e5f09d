/- Fields of the wire: the program's reading of one and the reference's are the same. One field of the wire: the program's and the reference's are one. Which messages are entries of maps: the program's answer is the reference's. The law: it holds of every message whose options are of bounded length. -/
import Derived.Test.YtpbnnbjkjaajnaaIC
import Derived.Test.YtpbnnbjkjaajnaaG8
import Derived.Test.YtpbnnbjkjaajnaaG9
import Derived.Test.YtpbnnbjkjaajnaaOS
set_option linter.unusedVariables false
set_option linter.unusedSimpArgs false
namespace Go.Proofs.Ytpbnnbjkjaajnaa.Pv
open Go Go.Proofs

theorem wrapU_range (n : Int) : 0 ≤ IntKind.wrap .u64 n ∧ IntKind.wrap .u64 n ≤ 18446744073709551615 := by
  unfold IntKind.wrap
  simp only [IntKind.signed, IntKind.bits]
  have : (2 : Int) ^ 64 = 18446744073709551616 := by decide
  simp only [Bool.false_eq_true, if_false, false_and, Bool.false_and]
  omega
theorem wrapU {n : Int} (h : 0 ≤ n ∧ n ≤ 18446744073709551615) : IntKind.wrap .u64 n = n := by
  unfold IntKind.wrap
  simp only [IntKind.signed, IntKind.bits]
  have : (2 : Int) ^ 64 = 18446744073709551616 := by decide
  simp only [Bool.false_eq_true, if_false, false_and, Bool.false_and]
  omega
theorem or_range (a b : Int) : 0 ≤ bitsV .or .u64 a b ∧ bitsV .or .u64 a b ≤ 18446744073709551615 := wrapU_range _
theorem and7 {n : Int} (h : 0 ≤ n ∧ n ≤ 18446744073709551615) : bitsV .and .u64 n 7 = n % 8 := by
  obtain ⟨m, rfl⟩ := Int.eq_ofNat_of_zero_le h.1
  have hm : m < 18446744073709551616 := by omega
  have e : ((BitVec.ofInt IntKind.u64.bits (m : Int) &&& BitVec.ofInt IntKind.u64.bits 7).toNat) = m % 8 := by
    show ((BitVec.ofInt 64 (m : Int) &&& BitVec.ofInt 64 7).toNat) = m % 8
    have h1 : BitVec.ofInt 64 (m : Int) = BitVec.ofNat 64 m := BitVec.ofInt_natCast ..
    have h2 : BitVec.ofInt 64 (7 : Int) = BitVec.ofNat 64 7 := by decide
    rw [h1, h2, BitVec.toNat_and, BitVec.toNat_ofNat, BitVec.toNat_ofNat, Nat.mod_eq_of_lt (by omega)]
    exact Nat.and_two_pow_sub_one_eq_mod m 3
  unfold bitsV
  simp only [e]
  rw [wrapU (by omega)]
  omega
theorem hi_tab : ∀ i : Fin 256, decide (((u8 (bitsV .and .u8 ((UInt8.ofNat i.val).toNat : Int) 128)).toNat : Int) = 0) = decide ((((UInt8.ofNat i.val).toNat : Int)) < 128) := by decide +kernel
theorem hi_bit (c : UInt8) : (((u8 (bitsV .and .u8 (c.toNat : Int) 128)).toNat : Int) = 0) ↔ ((c.toNat : Int) < 128) := by
  have h := hi_tab ⟨c.toNat, c.toNat_lt⟩
  simp only [UInt8.ofNat_toNat] at h
  exact decide_eq_decide.1 h
/-- What a loop of the reference comes to. -/
def vEnd : Unit ⊕ (Int × Int × Int) → Int × Int × Int
  | .inl _ => (0, 0, 10)
  | .inr r => r
def VT (x : List UInt8) (r : Int × Int × Int) : Prop := (0 ≤ r.1 ∧ r.1 ≤ 18446744073709551615) ∧ ((r.2.2 = 0 ∧ 1 ≤ r.2.1 ∧ r.2.1 ≤ (x.length : Int)) ∨ r.2.2 = 10)
theorem vt_loop (x : List UInt8) : ∀ (k : Nat) (n : Int) (i : Nat), i ≤ 10 → i ≤ x.length → 10 - i < k →
    ∃ z, glossaryref01_TakeVarint_l1 x k n (i : Int) = .ok z ∧ T.varint_Take_l0 x k n (i : Int) = .ok (vEnd z) ∧ VT x (vEnd z)
  | 0, n, i, h1, h2, h3 => by omega
  | k + 1, n, i, h1, h2, h3 => by
    unfold glossaryref01_TakeVarint_l1 T.varint_Take_l0
    by_cases hl : i = x.length
    · rw [if_neg (show ¬ (i : Int) < (x.length : Int) by omega), if_pos (show (i : Int) = (x.length : Int) by omega)]
      simp only [R.bind_ok, Bool.false_eq_true, if_false, if_true]
      exact ⟨_, rfl, rfl, ⟨by decide, by decide⟩, .inr rfl⟩
    · rw [if_pos (show (i : Int) < (x.length : Int) by omega), if_neg (show ¬ (i : Int) = (x.length : Int) by omega)]
      by_cases h10 : i = 10
      · subst h10
        simp only [R.bind_ok]
        rw [if_neg (by decide), if_pos (by decide)]
        exact ⟨_, rfl, rfl, ⟨by decide, by decide⟩, .inr rfl⟩
      · have hlt : i < x.length := by omega
        have hb : 0 ≤ (i : Int) ∧ (i : Int) < (x.length : Int) := by omega
        simp only [R.bind_ok]
        rw [if_pos (show decide ((i : Int) < 10) = true from decide_eq_true (by omega)), if_neg (show ¬ decide ((i : Int) = 10) = true from fun e => by have := of_decide_eq_true e; omega), if_pos hb]
        rw [gt_at hlt]
        have e7 : IntKind.wrap .i64 (7 * (i : Int)) = 7 * (i : Int) := wrap64 (by omega)
        have e7' : IntKind.wrap .u64 (7 * (i : Int)) = 7 * (i : Int) := wrapU (by omega)
        have e1 : IntKind.wrap .i64 ((i : Int) + 1) = ((i + 1 : Nat) : Int) := by rw [wrap64 (by omega)]; omega
        have h70 : 0 ≤ 7 * (i : Int) := by omega
        simp only [e7, e7', e1, if_pos hb, if_pos h70]
        have go : ∃ z, (if (x[i].toNat : Int) < 128 then R.ok (.inr (bitsV .or .u64 n (IntKind.wrap .u64 ((IntKind.wrap .u64 ((u8 (bitsV .and .u8 (x[i].toNat : Int) 127)).toNat : Int)) * 2 ^ (min (Int.toNat (7 * (i : Int))) 64))), ((i + 1 : Nat) : Int), 0))
            else glossaryref01_TakeVarint_l1 x k (bitsV .or .u64 n (IntKind.wrap .u64 ((IntKind.wrap .u64 ((u8 (bitsV .and .u8 (x[i].toNat : Int) 127)).toNat : Int)) * 2 ^ (min (Int.toNat (7 * (i : Int))) 64)))) ((i + 1 : Nat) : Int)) = R.ok z ∧
          (if ((u8 (bitsV .and .u8 (x[i].toNat : Int) 128)).toNat : Int) = 0 then R.ok (bitsV .or .u64 n (IntKind.wrap .u64 ((IntKind.wrap .u64 ((u8 (bitsV .and .u8 (x[i].toNat : Int) 127)).toNat : Int)) * 2 ^ (min (Int.toNat (7 * (i : Int))) 64))), ((i + 1 : Nat) : Int), 0)
            else T.varint_Take_l0 x k (bitsV .or .u64 n (IntKind.wrap .u64 ((IntKind.wrap .u64 ((u8 (bitsV .and .u8 (x[i].toNat : Int) 127)).toNat : Int)) * 2 ^ (min (Int.toNat (7 * (i : Int))) 64)))) ((i + 1 : Nat) : Int)) = R.ok (vEnd z) ∧ VT x (vEnd z) := by
          by_cases hc : (x[i].toNat : Int) < 128
          · rw [if_pos hc, if_pos ((hi_bit _).2 hc)]
            exact ⟨_, rfl, rfl, or_range _ _, .inl ⟨rfl, by show (1 : Int) ≤ ((i + 1 : Nat) : Int); omega, by show ((i + 1 : Nat) : Int) ≤ _; omega⟩⟩
          · rw [if_neg hc, if_neg (fun e => hc ((hi_bit _).1 e))]
            exact vt_loop x k _ (i + 1) (by omega) (by omega) (by omega)
        by_cases h9 : i = 9
        · have h9' : (i : Int) = 9 := by omega
          simp only [if_pos h9', R.bind_ok]
          by_cases hc1 : (1 : Int) < (x[i].toNat : Int)
          · rw [if_pos (decide_eq_true hc1), if_pos (decide_eq_true hc1)]
            exact ⟨_, rfl, rfl, ⟨by decide, by decide⟩, .inr rfl⟩
          · have hd : ¬ decide ((1 : Int) < (x[i].toNat : Int)) = true := fun e => hc1 (of_decide_eq_true e)
            rw [if_neg hd, if_neg hd]
            exact go
        · have h9' : ¬ (i : Int) = 9 := by omega
          simp only [if_neg h9', R.bind_ok, Bool.false_eq_true, if_false]
          exact go
theorem vt_ok (x : List UInt8) : ∃ r, glossaryref01_TakeVarint x = .ok r ∧ T.varint_Take x = .ok r ∧ VT x r := by
  obtain ⟨z, h1, h2, h3⟩ := vt_loop x Many 0 0 (by omega) (by omega) (by unfold Many; omega)
  refine ⟨vEnd z, ?_, h2, h3⟩
  unfold glossaryref01_TakeVarint
  have h1' : glossaryref01_TakeVarint_l1 x Many 0 0 = .ok z := h1
  rw [h1', R.bind_ok]
  cases z <;> rfl
theorem uf_loop (x : List UInt8) : ∀ (k : Nat) (n : Int) (i : Nat), i ≤ 8 → i ≤ x.length → 8 - i < k →
    ∃ z, glossaryref01_Unfixed_l1 x k n (i : Int) = .ok z ∧ T.varint_Unfixed_l1 x k n (i : Int) = .ok z
  | 0, n, i, h1, h2, h3 => by omega
  | k + 1, n, i, h1, h2, h3 => by
    unfold glossaryref01_Unfixed_l1 T.varint_Unfixed_l1
    by_cases hl : i < x.length ∧ i < 8
    · have hm : (i : Int) < (if (8 : Int) < (x.length : Int) then 8 else (x.length : Int)) := by split <;> omega
      have hb : 0 ≤ (i : Int) ∧ (i : Int) < (x.length : Int) := by omega
      have e8 : IntKind.wrap .i64 (8 * (i : Int)) = 8 * (i : Int) := wrap64 (by omega)
      have e8' : IntKind.wrap .u64 (8 * (i : Int)) = 8 * (i : Int) := wrapU (by omega)
      have e1 : IntKind.wrap .i64 ((i : Int) + 1) = ((i + 1 : Nat) : Int) := by rw [wrap64 (by omega)]; omega
      rw [if_pos (show (i : Int) < (x.length : Int) by omega), if_pos hm]
      simp only [R.bind_ok]
      rw [if_pos (show decide ((i : Int) < 8) = true from decide_eq_true (by omega))]
      simp only [e8, e8', e1, if_pos hb, if_pos (show 0 ≤ 8 * (i : Int) by omega)]
      exact uf_loop x k _ (i + 1) (by omega) (by omega) (by omega)
    · have hm : ¬ (i : Int) < (if (8 : Int) < (x.length : Int) then 8 else (x.length : Int)) := by split <;> omega
      rw [if_neg hm]
      by_cases h : (i : Int) < (x.length : Int)
      · rw [if_pos h]
        simp only [R.bind_ok]
        rw [if_neg (show ¬ decide ((i : Int) < 8) = true from fun e => by have := of_decide_eq_true e; omega)]
        exact ⟨_, rfl, rfl⟩
      · rw [if_neg h]
        simp only [R.bind_ok, Bool.false_eq_true, if_false]
        exact ⟨_, rfl, rfl⟩
theorem uf_ok (x : List UInt8) : ∃ z, glossaryref01_Unfixed x = .ok z ∧ T.varint_Unfixed x = .ok z := by
  obtain ⟨z, h1, h2⟩ := uf_loop x Many 0 0 (by omega) (by omega) (by unfold Many; omega)
  have h1' : glossaryref01_Unfixed_l1 x Many 0 0 = .ok z := h1
  have h2' : T.varint_Unfixed_l1 x Many 0 0 = .ok z := h2
  refine ⟨z, ?_, ?_⟩
  · unfold glossaryref01_Unfixed; rw [h1', R.bind_ok]; rfl
  · unfold T.varint_Unfixed; rw [h2', R.bind_ok]; rfl
theorem clone_ok (x : List UInt8) (h : x.length ≤ 1000000000) : T.bytes_Clone x = .ok x := by
  unfold T.bytes_Clone T.bytes_Clone_j0
  rw [if_pos h]
  by_cases hx : x = []
  · subst hx
    rw [if_pos rfl]
    rfl
  · rw [if_neg hx]
end Go.Proofs.Ytpbnnbjkjaajnaa.Pv
set_option linter.unusedVariables false
set_option linter.unusedSimpArgs false
namespace Go.Proofs.Ytpbnnbjkjaajnaa.Pv
open Go Go.Proofs
def toT (m : S_api_Raw) : T.S_api_Raw := ⟨m.Num, m.Kind, m.N, m.B⟩
theorem wk1 : T.wire_kind 1 = .ok (8, true) := rfl
theorem wk5 : T.wire_kind 5 = .ok (4, true) := rfl
theorem wk0 : T.wire_kind 0 = .ok (0, true) := rfl
theorem wk2 : T.wire_kind 2 = .ok (0, true) := rfl
def TakeSame (x : List UInt8) (u : R (S_api_Raw × Int × Int)) (v : R (T.S_api_Raw × Int × Int)) : Prop :=
  ∃ m n e, u = .ok (m, n, e) ∧ v = .ok (toT m, n, e) ∧ (e = 0 → 1 ≤ n ∧ n ≤ (x.length : Int))
theorem take_fixed (x : List UInt8) (hx : x.length ≤ 2000000) {q kd : Int} (i : Nat) (sz : Nat) (h1 : 1 ≤ i) (h2 : i ≤ x.length) (hs : sz ≤ 8) :
    TakeSame x (if ((x.drop i).length : Int) < (sz : Int) then (R.ok ((S_api_Raw.mk 0 0 0 []), 0, 21)) else (if 0 ≤ (sz : Int) ∧ (sz : Int) ≤ ((x.drop i).length : Int) then ((glossaryref01_Unfixed (List.take (Int.toNat (sz : Int)) (x.drop i))).bind fun r58 => R.ok ((S_api_Raw.mk q kd r58 []), (IntKind.wrap .i64 ((i : Int) + (sz : Int))), 0)) else R.stuck))
      (if ((x.drop i).length : Int) < (sz : Int) then (R.ok ((T.S_api_Raw.mk 0 0 0 []), 0, 21)) else (if 0 ≤ (sz : Int) ∧ (sz : Int) ≤ ((x.drop i).length : Int) then ((T.varint_Unfixed (List.take (Int.toNat (sz : Int)) (x.drop i))).bind fun r44 => R.ok ((T.S_api_Raw.mk q kd r44 []), (IntKind.wrap .i64 ((i : Int) + (sz : Int))), 0)) else R.stuck)) := by
  have hl : (x.drop i).length = x.length - i := List.length_drop
  by_cases h : ((x.drop i).length : Int) < (sz : Int)
  · rw [if_pos h, if_pos h]; exact ⟨_, _, _, rfl, rfl, fun e => by cases e⟩
  · rw [if_neg h, if_neg h, if_pos (by omega), if_pos (by omega)]
    obtain ⟨z, e1, e2⟩ := uf_ok (List.take (Int.toNat (sz : Int)) (x.drop i))
    rw [e1, e2, R.bind_ok, R.bind_ok]
    exact ⟨_, _, _, rfl, rfl, fun _ => by rw [wrap64 (by omega)]; omega⟩
theorem take_ok (x : List UInt8) (hx : x.length ≤ 2000000) : TakeSame x (glossaryref01_Take x) (T.wire_Take x) := by
  obtain ⟨⟨tag, i, e⟩, h1, h2, ⟨t0, t1⟩, hv⟩ := vt_ok x
  simp only at t0 t1 hv
  unfold glossaryref01_Take T.wire_Take
  rw [h1, h2, R.bind_ok, R.bind_ok]
  simp only []
  by_cases he : e = 0
  case neg => rw [if_neg he, if_neg he]; exact ⟨_, _, _, rfl, rfl, fun h => absurd h he⟩
  rw [if_pos he, if_pos he]
  rcases hv with ⟨_, hi1, hi2⟩ | h10
  case inr => omega
  obtain ⟨j, rfl⟩ := Int.eq_ofNat_of_zero_le (show 0 ≤ i by omega)
  -- the tag's parts
  have ek : IntKind.wrap .i64 (bitsV .and .u64 tag 7) = tag % 8 := by rw [and7 ⟨t0, t1⟩, wrap64 (by omega)]
  have ek' : IntKind.wrap .i64 (Int.tmod tag 8) = tag % 8 := by rw [Int.tmod_eq_emod_of_nonneg t0, wrap64 (by omega)]
  have e32 : Int.fdiv tag (2 ^ (min 32 64)) = tag / 4294967296 := by rw [Int.fdiv_eq_ediv_of_nonneg _ (by decide)]; rfl
  have eq : IntKind.wrap .i64 (Int.fdiv tag (2 ^ (min 3 64))) = tag / 8 := by
    rw [Int.fdiv_eq_ediv_of_nonneg _ (by decide)]
    show IntKind.wrap .i64 (tag / 8) = tag / 8
    exact wrap64 (by omega)
  have eq' : IntKind.wrap .i64 (IntKind.wrap .u64 (Int.tdiv tag 8)) = tag / 8 := by
    rw [Int.tdiv_eq_ediv_of_nonneg t0, wrapU (by omega), wrap64 (by omega)]
  simp only [ek, ek', e32, eq, eq']
  unfold glossaryref01_Take_j1 glossaryref01_Take_j0
  simp only [ek, ek', e32, eq, eq', Int.toNat_natCast]
  have hin : 0 ≤ (j : Int) ∧ (j : Int) ≤ (x.length : Int) := by omega
  simp only [if_pos hin]
  have hj1 : 1 ≤ j := by omega
  have hj2 : j ≤ x.length := by omega
  have hdl : (x.drop j).length = x.length - j := List.length_drop
  have flags : ∀ is : Bool, ∃ fl : Bool, (if (4294967296 : Int) ≤ tag then R.ok true else (if tag < 8 then R.ok true else R.ok (!is))) = R.ok fl ∧ (if tag / 4294967296 = 0 then (if tag / 8 = 0 then R.ok true else R.ok (!is)) else R.ok true) = R.ok fl ∧ (is = false → fl = true) := fun is => by
    by_cases hb : (4294967296 : Int) ≤ tag
    · rw [if_pos hb, if_neg (show ¬ tag / 4294967296 = 0 by omega)]; exact ⟨true, rfl, rfl, fun _ => rfl⟩
    · rw [if_neg hb, if_pos (show tag / 4294967296 = 0 by omega)]
      by_cases hs : tag < 8
      · rw [if_pos hs, if_pos (show tag / 8 = 0 by omega)]; exact ⟨true, rfl, rfl, fun _ => rfl⟩
      · rw [if_neg hs, if_neg (show ¬ tag / 8 = 0 by omega)]; exact ⟨!is, rfl, rfl, fun h => by rw [h]; rfl⟩
  have hkd : ∃ sz is, T.wire_kind (tag % 8) = .ok (sz, is) ∧ glossaryref01_kind (tag % 8) = .ok is ∧ (is = true → (tag % 8 = 1 ∧ sz = 8) ∨ (tag % 8 = 5 ∧ sz = 4) ∨ (tag % 8 = 0 ∧ sz = 0) ∨ (tag % 8 = 2 ∧ sz = 0)) := by
    generalize tag % 8 = kd
    by_cases h1 : kd = 1
    · subst h1; exact ⟨8, true, rfl, rfl, fun _ => .inl ⟨rfl, rfl⟩⟩
    by_cases h5 : kd = 5
    · subst h5; exact ⟨4, true, rfl, rfl, fun _ => .inr (.inl ⟨rfl, rfl⟩)⟩
    by_cases h0 : kd = 0
    · subst h0; exact ⟨0, true, rfl, rfl, fun _ => .inr (.inr (.inl ⟨rfl, rfl⟩))⟩
    by_cases h2 : kd = 2
    · subst h2; exact ⟨0, true, rfl, rfl, fun _ => .inr (.inr (.inr ⟨rfl, rfl⟩))⟩
    refine ⟨0, false, ?_, ?_, fun e => by cases e⟩
    · unfold T.wire_kind; rw [if_neg h1, if_neg h5, if_neg h0, if_neg h2]
    · unfold glossaryref01_kind; rw [if_neg h0, if_neg h1, if_neg h2, R.bind_ok, decide_eq_false h5]
  obtain ⟨sz, is, hk1, hk2, hk3⟩ := hkd
  rw [hk1, hk2, R.bind_ok, R.bind_ok]
  obtain ⟨fl, f1, f2, f3⟩ := flags is
  simp only [f1, f2, R.bind_ok]
  cases fl with
  | true => exact ⟨_, _, _, rfl, rfl, fun e => by cases e⟩
  | false =>
  have his : is = true := by cases is with | true => rfl | false => exact absurd (f3 rfl) (by decide)
  simp only [Bool.false_eq_true, if_false]
  rcases hk3 his with ⟨hk, rfl⟩ | ⟨hk, rfl⟩ | hz
  · simp only [hk]
    simp only [R.bind_ok, ↓reduceIte, Int.reduceEq, decide_true, decide_false, Bool.false_eq_true, Bool.not_true, Bool.not_false, Int.reduceLT, Int.reduceToNat]
    exact take_fixed x hx j 8 hj1 hj2 (by omega)
  · simp only [hk]
    simp only [R.bind_ok, ↓reduceIte, Int.reduceEq, decide_true, decide_false, Bool.false_eq_true, Bool.not_true, Bool.not_false, Int.reduceLT, Int.reduceToNat]
    exact take_fixed x hx j 4 hj1 hj2 (by omega)
  · obtain ⟨⟨n, u, e2⟩, g1, g2, ⟨n0, n1⟩, gv⟩ := vt_ok (x.drop j)
    simp only at n0 n1 gv
    have hsz : sz = 0 := by rcases hz with ⟨_, h⟩ | ⟨_, h⟩ <;> exact h
    have hk15 : ¬ tag % 8 = 1 ∧ ¬ tag % 8 = 5 := by rcases hz with ⟨h, _⟩ | ⟨h, _⟩ <;> omega
    subst hsz
    simp only [if_neg hk15.1, if_neg hk15.2, decide_eq_false hk15.2, Bool.false_eq_true, if_false, Int.lt_irrefl, g1, g2, R.bind_ok]
    by_cases he2 : e2 = 0
    case neg => rw [if_neg he2, if_neg he2]; exact ⟨_, _, _, rfl, rfl, fun h => absurd h he2⟩
    rw [if_pos he2, if_pos he2]
    rcases gv with ⟨_, hu1, hu2⟩ | h10
    case inr => omega
    by_cases h0 : tag % 8 = 0
    · rw [if_pos h0, if_pos h0]
      exact ⟨_, _, _, rfl, rfl, fun _ => by rw [wrap64 (by omega)]; omega⟩
    rw [if_neg h0, if_neg h0]
    have el : IntKind.wrap .u64 (IntKind.wrap .i64 (((x.drop j).length : Int) - u)) = ((x.drop j).length : Int) - u := by rw [wrap64 (by omega), wrapU (by omega)]
    rw [el]
    by_cases hbig : ((x.drop j).length : Int) - u < n
    · rw [if_pos hbig, if_pos hbig]; exact ⟨_, _, _, rfl, rfl, fun e => by cases e⟩
    rw [if_neg hbig, if_neg hbig]
    have en : IntKind.wrap .i64 n = n := wrap64 (by omega)
    have eun : IntKind.wrap .i64 (u + n) = u + n := wrap64 (by omega)
    have eju : IntKind.wrap .i64 ((j : Int) + u) = (j : Int) + u := wrap64 (by omega)
    have ejn : IntKind.wrap .i64 ((j : Int) + u + n) = (j : Int) + u + n := wrap64 (by omega)
    simp only [en, eun, eju, ejn]
    have hcc : (0 ≤ u + n ∧ u + n ≤ ((x.drop j).length : Int)) ∧ 0 ≤ u ∧ u ≤ u + n := by omega
    have hlen : (List.drop u.toNat (List.take (u + n).toNat (List.drop j x))).length ≤ 1000000000 := by simp only [List.length_drop, List.length_take]; omega
    rw [if_pos hcc, if_pos hcc, if_pos hlen, clone_ok _ hlen, R.bind_ok]
    exact ⟨_, _, _, rfl, rfl, fun _ => by omega⟩
end Go.Proofs.Ytpbnnbjkjaajnaa.Pv
set_option linter.unusedVariables false
set_option linter.unusedSimpArgs false
namespace Go.Proofs.Ytpbnnbjkjaajnaa.Pv
open Go Go.Proofs
def wEnd : (List S_api_Raw × Int) ⊕ (List S_api_Raw × Int × Int) → List S_api_Raw × Int × Int
  | .inl (a, _) => (a, 0, 0)
  | .inr r => r
def zEnd : List S_api_Raw ⊕ (List S_api_Raw × Int × Int) → List S_api_Raw × Int × Int
  | .inl a => (a, 0, 0)
  | .inr r => r
theorem read_loop (x : List UInt8) (hx : x.length ≤ 1048576) : ∀ (k : Nat) (acc : List S_api_Raw) (i : Nat), i ≤ x.length → x.length - i < k → acc.length ≤ i →
    ∃ l z, fieldsGo x k (i : Int) = .ok l ∧ glossaryref01_Read_l1 x k acc (i : Int) = .ok z ∧ (∀ e0, ∃ w, wire_Read_r1 l acc e0 = .ok w ∧ wEnd w = zEnd z) ∧ ((zEnd z).2.2 ≠ 0 → (zEnd z).1 = []) ∧ (zEnd z).1.length ≤ x.length
  | 0, acc, i, h1, h2, h3 => by omega
  | k + 1, acc, i, h1, h2, h3 => by
    unfold glossaryref01_Read_l1
    rw [fieldsGo]
    by_cases hl : (i : Int) < (x.length : Int)
    · rw [if_pos hl, if_pos hl, if_pos (show 0 ≤ (i : Int) by omega), if_pos (show 0 ≤ (i : Int) ∧ (i : Int) ≤ (x.length : Int) by omega)]
      simp only [Int.toNat_natCast]
      have hdl : (x.drop i).length = x.length - i := List.length_drop
      obtain ⟨m, n, e, t1, t2, t3⟩ := take_ok (x.drop i) (by omega)
      rw [t1, t2]
      simp only [R.sure, R.bind_ok]
      by_cases he : e = 0
      · obtain ⟨n1, n2⟩ := t3 he
        rw [if_pos he, if_pos he, if_pos (by simp only [List.length_cons, List.length_nil]; omega)]
        obtain ⟨n', rfl⟩ := Int.eq_ofNat_of_zero_le (show 0 ≤ n by omega)
        have ew : IntKind.wrap .i64 ((i : Int) + (n' : Int)) = ((i + n' : Nat) : Int) := by rw [wrap64 (by omega)]; omega
        rw [ew]
        obtain ⟨l, z, g1, g2, g3, g4, g5⟩ := read_loop x hx k (acc ++ [m]) (i + n') (by omega) (by omega) (by simp; omega)
        rw [g1, g2, R.bind_ok]
        refine ⟨_, z, rfl, rfl, fun e0 => ?_, g4, g5⟩
        rw [wire_Read_r1]
        simp only [toT]
        rw [if_pos he, if_pos (by simp only [List.length_cons, List.length_nil]; omega)]
        exact g3 _
      · rw [if_neg he, if_neg he]
        refine ⟨_, _, rfl, rfl, fun e0 => ?_, fun _ => rfl, by simp [zEnd]⟩
        rw [wire_Read_r1]
        rw [if_neg he]
        exact ⟨_, rfl, rfl⟩
    · rw [if_neg hl, if_neg hl]
      exact ⟨_, _, rfl, rfl, fun e0 => ⟨_, rfl, rfl⟩, fun h => absurd rfl h, by show acc.length ≤ x.length; omega⟩
theorem read_ok (x : List UInt8) (hx : x.length ≤ 1048576) : ∃ r, glossaryref01_Read x = .ok r ∧ wire_Read x = .ok r ∧ (r.2.2 ≠ 0 → r.1 = []) ∧ r.1.length ≤ x.length := by
  obtain ⟨l, z, g1, g2, g3, g4, g5⟩ := read_loop x hx Many [] 0 (by omega) (by unfold Many; omega) (by simp)
  obtain ⟨w, w1, w2⟩ := g3 0
  have g2' : glossaryref01_Read_l1 x Many [] 0 = .ok z := g2
  have g1' : fieldsT x = .ok l := g1
  refine ⟨zEnd z, ?_, ?_, g4, g5⟩
  · unfold glossaryref01_Read
    rw [g2', R.bind_ok]
    cases z <;> rfl
  · unfold wire_Read wire_fields
    simp only [R.sure, R.bind_ok]
    rw [g1']
    simp only [R.bind_ok]
    rw [w1, R.bind_ok, ← w2]
    cases w <;> rfl
/-- One field more. -/
def stepE (is : Bool) (r : S_api_Raw) : Bool := if r.Num = 7 ∧ r.Kind = 0 then !(decide (r.N = 0)) else is
theorem cond_ok (r : S_api_Raw) : (if r.Num = 7 then R.ok (decide (r.Kind = 0)) else R.ok false) = R.ok (decide (r.Num = 7 ∧ r.Kind = 0)) := by
  by_cases h : r.Num = 7
  · rw [if_pos h]; simp [h]
  · rw [if_neg h]; simp [h]
theorem refE_loop (r4 : List S_api_Raw × Int × Int) (hl : r4.1.length ≤ 1048576) : ∀ (k : Nat) (is : Bool) (i : Nat), i ≤ r4.1.length → r4.1.length - i < k → glossaryref14_Entry_l1 r4 k is (i : Int) = .ok ((r4.1.drop i).foldl stepE is)
  | 0, is, i, h1, h2 => by omega
  | k + 1, is, i, h1, h2 => by
    unfold glossaryref14_Entry_l1
    by_cases h : i < r4.1.length
    · rw [if_pos (show (i : Int) < (r4.1.length : Int) by omega), if_pos (show 0 ≤ (i : Int) ∧ (i : Int) < (r4.1.length : Int) by omega), gt_at h]
      have e1 : IntKind.wrap .i64 ((i : Int) + 1) = ((i + 1 : Nat) : Int) := by rw [wrap64 (by omega)]; omega
      rw [cond_ok, R.bind_ok, e1, drop_at h, List.foldl_cons]
      by_cases hc : r4.1[i].Num = 7 ∧ r4.1[i].Kind = 0
      · rw [if_pos (decide_eq_true hc), refE_loop r4 hl k _ (i + 1) (by omega) (by omega)]
        simp only [stepE, if_pos hc]
      · rw [if_neg (fun e => hc (of_decide_eq_true e)), refE_loop r4 hl k _ (i + 1) (by omega) (by omega)]
        simp only [stepE, if_neg hc]
    · rw [if_neg (show ¬ (i : Int) < (r4.1.length : Int) by omega), List.drop_eq_nil_of_le (by omega)]; rfl
theorem progE_loop (l : List S_api_Raw) : ∀ n, n ≤ l.length → ∃ z, pool_Entry_r1 (revTo l n) = .ok z ∧ (match z with | .inl _ => false | .inr b => b) = (l.take n).foldl stepE false
  | 0, _ => ⟨_, rfl, rfl⟩
  | n + 1, h => by
    have hn : n < l.length := by omega
    rw [revTo, List.getElem?_eq_getElem hn]
    show ∃ z, pool_Entry_r1 (((n : Int), l[n]) :: revTo l n) = .ok z ∧ _
    rw [pool_Entry_r1, cond_ok, R.bind_ok, List.take_succ_eq_append_getElem hn, List.foldl_append]
    by_cases hc : l[n].Num = 7 ∧ l[n].Kind = 0
    · rw [if_pos (decide_eq_true hc)]
      exact ⟨_, rfl, by simp only [List.foldl_cons, List.foldl_nil, stepE, if_pos hc]⟩
    · rw [if_neg (fun e => hc (of_decide_eq_true e))]
      obtain ⟨z, h1, h2⟩ := progE_loop l n (by omega)
      exact ⟨z, h1, by rw [h2]; simp only [List.foldl_cons, List.foldl_nil, stepE, if_neg hc]⟩
theorem entry_same (m : S_api_Message) (hm : m.Options.length ≤ 1048576) : ∃ b, pool_Entry m = .ok b ∧ glossaryref14_Entry m = .ok b := by
  obtain ⟨⟨l, i, e⟩, h1, h2, h3, h4⟩ := read_ok m.Options hm
  simp only at h3 h4
  unfold pool_Entry glossaryref14_Entry slices_Backward_apiRaw
  rw [h1, h2]
  simp only [R.sure, R.bind_ok]
  obtain ⟨z, g1, g2⟩ := progE_loop l l.length (Nat.le_refl _)
  have g1' : pool_Entry_r1 (revIdx l) = .ok z := g1
  have g3 : glossaryref14_Entry_l1 (l, i, e) Many false 0 = .ok (l.foldl stepE false) := by
    have := refE_loop (l, i, e) (by simp only; omega) Many false 0 (by omega) (by unfold Many; simp only; omega)
    simpa using this
  rw [if_pos (by omega), g1', g3]
  simp only [R.bind_ok]
  rw [List.take_length] at g2
  refine ⟨l.foldl stepE false, ?_, ?_⟩
  · rw [← g2]
    cases z <;> rfl
  · unfold glossaryref14_Entry_j0
    simp only []
    by_cases he : e = 0
    · cases hf : l.foldl stepE false with
      | true => rw [if_pos rfl, R.bind_ok, decide_eq_true he]
      | false => rw [if_neg (by decide), R.bind_ok]
    · rw [h3 he]
      simp [R.bind_ok]
end Go.Proofs.Ytpbnnbjkjaajnaa.Pv
set_option linter.unusedVariables false
set_option linter.unusedSimpArgs false
namespace Go.Proofs.Ytpbnnbjkjaajnaa.Pv
open Go Go.Proofs
/-- How many rounds more there may be. -/
def left_ (x1 : Int) : Int := if x1 = 1000 then 0 else 101 - x1
def CntOK (a : Int) (v : Int) : Prop := v = 1000 ∨ (a ≤ v ∧ v ≤ 100)
theorem cnt_loop (self : List S_api_Message → Int → Int → R Int) (l : List S_api_Message) (d : Int) (a : Int) (ha : 0 ≤ a)
    (hs : ∀ (l : List S_api_Message) (x : Int), 0 ≤ x → x ≤ 100 → ∃ v, self l x (IntKind.wrap .i64 (d + 1)) = .ok v ∧ CntOK x v) :
    ∀ (k : Nat) (x1 : Int) (i : Nat), CntOK a x1 → left_ x1 < k → (i : Int) + left_ x1 ≤ 110 → ∃ z, glossarylaw11_count_l1 self l d k x1 (i : Int) = .ok z ∧ (match z with | .inl v => CntOK a v | .inr v => v = 1000)
  | 0, x1, i, hc, hk, hi => by
    exfalso
    unfold left_ at hk
    rcases hc with rfl | ⟨h1, h2⟩
    · simp at hk
    · rw [if_neg (by omega)] at hk; omega
  | k + 1, x1, i, hc, hk, hi => by
    unfold glossarylaw11_count_l1
    by_cases hl : (i : Int) < (l.length : Int)
    · rw [if_pos hl, if_pos (show 0 ≤ (i : Int) ∧ (i : Int) < (l.length : Int) by omega)]
      have hx : x1 ≤ 1000 ∧ 0 ≤ x1 := by rcases hc with rfl | ⟨h1, h2⟩ <;> omega
      have e1 : IntKind.wrap .i64 (x1 + 1) = x1 + 1 := wrap64 (by omega)
      simp only [e1]
      by_cases h100 : 100 < x1 + 1
      · rw [if_pos h100, R.bind_ok, if_pos rfl]; exact ⟨_, rfl, rfl⟩
      · rw [if_neg h100, R.bind_ok]
        split
        · exact ⟨_, rfl, rfl⟩
        · have hx1 : ¬ x1 = 1000 ∧ a ≤ x1 ∧ x1 ≤ 99 := by rcases hc with rfl | ⟨h1, h2⟩ <;> omega
          obtain ⟨v, hv, hvc⟩ := hs (gt l (i : Int)).Nested (x1 + 1) (by omega) (by omega)
          rw [hv, R.bind_ok]
          unfold left_ at hi hk
          rw [if_neg hx1.1] at hi hk
          have ei : IntKind.wrap .i64 ((i : Int) + 1) = ((i + 1 : Nat) : Int) := by rw [wrap64 (by omega)]; omega
          rw [ei]
          refine cnt_loop self l d a ha hs k v (i + 1) (hvc.imp_right fun h => ⟨by omega, h.2⟩) ?_ ?_
          · unfold left_; rcases hvc with rfl | ⟨h1, h2⟩
            · simp; omega
            · rw [if_neg (by omega)]; omega
          · unfold left_; rcases hvc with rfl | ⟨h1, h2⟩
            · simp; omega
            · rw [if_neg (by omega)]; omega
    · rw [if_neg hl]; exact ⟨_, rfl, hc⟩
theorem cnt_ok : ∀ (n : Nat) (l : List S_api_Message) (a d : Int), 0 ≤ a → a ≤ 100 → 0 ≤ d → d ≤ 71 → 72 - d ≤ n → ∃ v, glossarylaw11_count_n n l a d = .ok v ∧ CntOK a v
  | 0, l, a, d, h1, h2, h3, h4, h5 => by omega
  | n + 1, l, a, d, h1, h2, h3, h4, h5 => by
    show ∃ v, glossarylaw11_count_b (glossarylaw11_count_n n) l a d = .ok v ∧ _
    unfold glossarylaw11_count_b
    by_cases h70 : 70 < d
    · rw [if_pos h70]; exact ⟨_, rfl, .inl rfl⟩
    · rw [if_neg h70]
      have ed : IntKind.wrap .i64 (d + 1) = d + 1 := wrap64 (by omega)
      obtain ⟨z, hz, hc⟩ := cnt_loop (glossarylaw11_count_n n) l d a h1 (fun l x hx0 hx1 => by rw [ed]; exact cnt_ok n l x (d + 1) hx0 hx1 (by omega) (by omega) (by omega)) Many a 0 (.inr ⟨Int.le_refl _, h2⟩)
        (by unfold left_ Many; split <;> omega) (by unfold left_; split <;> omega)
      have hz' : glossarylaw11_count_l1 (glossarylaw11_count_n n) l d Many a 0 = .ok z := hz
      rw [hz', R.bind_ok]
      cases z with
      | inl v => exact ⟨v, rfl, hc⟩
      | inr v => exact ⟨v, rfl, .inl hc⟩
theorem few_ok (f : S_api_File) : ∃ b, glossarylaw11_Few f = .ok b := by
  unfold glossarylaw11_Few
  obtain ⟨v, hv, _⟩ := cnt_ok Many f.Messages 0 0 (by decide) (by decide) (by decide) (by decide) (by unfold Many; decide)
  have hv' : glossarylaw11_count f.Messages 0 0 = .ok v := hv
  rw [hv']
  repeat' split
  all_goals (simp only [R.bind_ok]; exact ⟨_, rfl⟩)
theorem poolEntries_law (m : S_api_Message) (ho : m.Ok) (hb : m.Options.length ≤ 1048576) : CA qprim 3 [.agg [.str m.Name, .sl 13 (List.map S_api_Field.enc m.Fields), .sl 11 (List.map S_api_Message.enc m.Nested), .sl 4 (List.map S_api_Enum.enc m.Enums), .sl 2 (List.map S_api_Range.enc m.Ranges), .sl 13 (List.map S_api_Field.enc m.Extends), .sl 3 (List.map S_api_Oneof.enc m.Oneofs), .sl 2 (List.map S_api_Range.enc m.Reserved), .sl 1 (List.map V.str m.Words), .sl 1 (List.map byteV m.Options), .sl 1 (List.map byteV m.Unknown)]] [] fun r _ => r = .ret (.bool true) := by
  have h : glossarylaw14_PoolEntries m = .ok true := by
    unfold glossarylaw14_PoolEntries glossarylaw14_message awakeX
    simp only [R.sure, R.bind_ok, if_true]
    obtain ⟨b, hf⟩ := few_ok (S_api_File.mk [] [] [] [] ([m]) [] [] [] [] [] [])
    rw [hf]
    simp only [R.bind_ok]
    cases b with
    | false => rw [if_neg (by decide), R.bind_ok]
    | true =>
      rw [if_pos rfl]
      obtain ⟨c, h1, h2⟩ := entry_same m hb
      rw [h1, h2]
      simp only [R.bind_ok, beq_self_eq_true]
  exact glossarylaw14_PoolEntries_call (KK := fun a => a = true) (X := fun _ => False) (by rw [h]; exact rfl) (fun a ha => by subst ha; rfl) (fun v hv => hv.elim)
end Go.Proofs.Ytpbnnbjkjaajnaa.Pv
