/- A pool that nobody made has nothing: the law as a plain law. -/
import Derived.Test.YtpbnnbjkjaajnaaG1
set_option linter.unusedVariables false
set_option linter.unusedSimpArgs false
namespace Go.Proofs.Ytpbnnbjkjaajnaa.Pv
open Go Go.Proofs

theorem li_loop (x0 : List UInt8) (c : UInt8) (hl : x0.length ≤ 1000) : ∀ (k : Nat) (i : Int), -1 ≤ i → i < x0.length → i + 1 < k →
    bytealg_LastIndexByteString_l1 x0 c k i = .ok (.inl ()) ∨ ∃ j, bytealg_LastIndexByteString_l1 x0 c k i = .ok (.inr j) ∧ 0 ≤ j ∧ j < x0.length
  | 0, i, h1, h2, h3 => by omega
  | k + 1, i, h1, h2, h3 => by
    unfold bytealg_LastIndexByteString_l1
    by_cases h0 : 0 ≤ i
    · rw [if_pos h0, if_pos ⟨h0, h2⟩]
      split
      · exact .inr ⟨i, rfl, h0, h2⟩
      · rw [wrap64 (by omega)]
        exact li_loop x0 c hl k (i - 1) (by omega) (by omega) (by omega)
    · rw [if_neg h0]; exact .inl rfl
theorem li_ok (x0 : List UInt8) (hl : x0.length ≤ 1000) : ∃ j, strings_LastIndexByte x0 46 = .ok j ∧ -1 ≤ j ∧ j < x0.length := by
  unfold strings_LastIndexByte bytealg_LastIndexByteString
  rw [wrap64 (by omega)]
  rcases li_loop x0 46 hl Many ((x0.length : Int) - 1) (by omega) (by omega) (by unfold Many; omega) with h | ⟨j, h, h1, h2⟩
  · rw [h]; exact ⟨-1, rfl, by omega, by omega⟩
  · rw [h]; exact ⟨j, rfl, by omega, h2⟩
theorem parent_ok (x0 : List UInt8) (hl : x0.length ≤ 1000) (hne : x0 ≠ []) : ∃ p q, names_Parent x0 = .ok (p, q) ∧ p.length < x0.length := by
  obtain ⟨j, h, h1, h2⟩ := li_ok x0 hl
  have hp : 0 < x0.length := List.length_pos_iff.2 hne
  unfold names_Parent
  rw [h, R.bind_ok, wrap64 (by omega)]
  by_cases hj : j < 0
  · simp only [if_pos hj]
    rw [if_pos (by omega), if_pos (by omega)]
    exact ⟨_, _, rfl, by simpa using hp⟩
  · simp only [if_neg hj]
    rw [if_pos (by omega), if_pos (by omega)]
    exact ⟨_, _, rfl, by rw [List.length_take]; omega⟩
theorem join_ok (a b : List UInt8) (ha : a.length ≤ 1000) (hb : b.length ≤ 1000) : ∃ r, names_Join a b = .ok r := by
  unfold names_Join
  split
  · exact ⟨_, rfl⟩
  · rw [if_pos (by simp; omega), if_pos (by simp; omega)]
    exact ⟨_, rfl⟩
theorem places_loop (x1 : List UInt8) (hb : x1.length ≤ 1000) : ∀ (k : Nat) (x0 : List UInt8) (l : List (List UInt8)), x0.length ≤ 1000 → x0.length < k → l.length + x0.length ≤ 2000 → ∃ r, names_Places_l2 x1 k x0 l = .ok r ∧ r.length ≤ 2001
  | 0, x0, l, h1, h2, h3 => by omega
  | k + 1, x0, l, h1, h2, h3 => by
    unfold names_Places_l2
    obtain ⟨r, hr⟩ := join_ok x0 x1 h1 hb
    rw [hr, R.bind_ok, if_pos (by simp; omega)]
    by_cases h0 : x0 = []
    · rw [if_pos h0]; exact ⟨_, rfl, by simp; omega⟩
    · obtain ⟨p, q, hp, hlt⟩ := parent_ok x0 h1 h0
      rw [if_neg h0, hp, R.bind_ok]
      exact places_loop x1 hb k p _ (by omega) (by omega) (by simp; omega)
theorem cut_ok (x : List UInt8) : ∃ r, strings_CutPrefix x [46] = .ok r := by
  unfold strings_CutPrefix stringslite_CutPrefix stringslite_HasPrefix
  by_cases h : (([46] : List UInt8).length : Int) ≤ (x.length : Int)
  · rw [if_pos h, if_pos ⟨by simp, h⟩]
    simp only [R.bind_ok]
    split
    · rw [if_pos ⟨by simp, h⟩]; exact ⟨_, rfl⟩
    · exact ⟨_, rfl⟩
  · rw [if_neg h]
    simp only [R.bind_ok, Bool.false_eq_true, if_false]
    exact ⟨_, rfl⟩
theorem places_ok (a b : List UInt8) (ha : a.length ≤ 1000) (hb : b.length ≤ 1000) : ∃ r, names_Places a b = .ok r ∧ r.length ≤ 2001 := by
  unfold names_Places
  obtain ⟨r, hr⟩ := cut_ok b
  rw [hr, R.bind_ok]
  split
  · exact ⟨_, rfl, by simp⟩
  · have e : ∀ k, names_Places_l0 b (k + 1) a = (names_Places_l2 b Many a []).bind fun x => names_Places_j1 x := fun k => rfl
    obtain ⟨r, hr, hl⟩ := places_loop b hb Many a [] ha (by unfold Many; omega) (by simp; omega)
    show ∃ r, names_Places_l0 b (999999999 + 1) a = .ok r ∧ r.length ≤ 2001
    rw [e, hr, R.bind_ok]
    exact ⟨r, rfl, hl⟩
theorem look_loop (r : List (List UInt8)) (hl : r.length ≤ 3000) : ∀ (k : Nat) (i : Int), 0 ≤ i → i ≤ r.length → (r.length : Int) < i + k → pool_Pool_Look_l1 r k i = .ok ()
  | 0, i, h0, h1, h2 => by omega
  | k + 1, i, h0, h1, h2 => by
    unfold pool_Pool_Look_l1
    by_cases h : i < (r.length : Int)
    · rw [if_pos h, if_pos ⟨h0, h⟩]
      show pool_Pool_Look_l1 r k (IntKind.wrap .i64 (i + 1)) = _
      rw [wrap64 (by omega)]
      exact look_loop r hl k (i + 1) (by omega) (by omega) (by omega)
    · rw [if_neg h]
theorem look_ok (a b : List UInt8) (s : List (List UInt8)) (k : List Int) (ha : a.length ≤ 1000) (hb : b.length ≤ 1000) : pool_Pool_Look a b s k = .ok ([], false) := by
  unfold pool_Pool_Look
  obtain ⟨r, hr, hl⟩ := places_ok a b ha hb
  rw [hr, R.bind_ok, look_loop r (by omega) Many 0 (by omega) (by omega) (by unfold Many; omega)]
  rfl
theorem none_law (s t : List UInt8) (k : List Int) : glossarylaw14_PoolNone s t k = .ok true := by
  unfold glossarylaw14_PoolNone awakeX
  rw [R.bind_ok, if_pos rfl]
  by_cases h1 : (300 : Int) < (s.length : Int)
  · rw [if_pos h1]; rfl
  rw [if_neg h1, R.bind_ok]
  by_cases h2 : (300 : Int) < (t.length : Int)
  · rw [if_pos (by simpa using h2)]
  rw [if_neg (by simpa using h2)]
  rw [look_ok s t _ k (by omega) (by omega)]
  rfl
theorem poolNone_law {Z : Prop} (x0 : List UInt8) (_ : x0.length ≤ maxLen) (x1 : List UInt8) (_ : x1.length ≤ maxLen) (x2 : List Int) (_ : Z) : CA qprim 4 [.str x0, .str x1, .sl 1 (List.map (V.int .i64) x2)] [] fun r _ => r = .ret (.bool true) :=
  glossarylaw14_PoolNone_call (KK := fun r => r = true) (X := fun _ => False) (by rw [none_law]; exact rfl) (fun r h => by rw [h]) (fun v h => h.elim)
end Go.Proofs.Ytpbnnbjkjaajnaa.Pv
