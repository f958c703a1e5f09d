/- The law of types: the program's and the reference's words of a type are one list. -/
import Derived.Test.YtiigffdmjdooeaaGreatDoorG2
import Derived.Test.YtiigffdmjdooeaaGreatDoorPwX
import Derived.KernelRfl
set_option linter.unusedVariables false
set_option linter.unusedSimpArgs false
set_option maxRecDepth 20000
namespace Go.Proofs.YtiigffdmjdooeaaGreatDoor.Pv
open Go Go.Proofs

def R.got {α : Type} (r : R α) : Option α :=
  match r with
  | .ok a => some a
  | _ => none
theorem R.of_got {α : Type} {r : R α} {a : α} (h : r.got = some a) : r = .ok a := by
  cases r with
  | ok b => simp only [R.got, Option.some.injEq] at h; rw [h]
  | pan v => cases h
  | stuck => cases h
theorem words_len : (wordsL.length : Int) = 19 := rfl
theorem type_loop (s : List UInt8) : ∀ (k : Nat) (i : Int), 0 ≤ i → i ≤ 19 → lower_Type_l1 wordsL s k i = glossaryref05_Word_l1 s k i
  | 0, i, _, _ => rfl
  | k + 1, i, h0, h1 => by
    show lower_Type_l1 wordsL s (k + 1) i = (if i < 19 then (if 0 ≤ i ∧ i < (List.length wordsL : Int) then ((if (gt wordsL i) = [] then (R.ok false) else (R.ok (decide ((gt wordsL i) = s)))).bind fun x => if x = true then (R.ok (.inr i)) else (glossaryref05_Word_l1 s k (IntKind.wrap .i64 (i + 1)))) else R.stuck) else (R.ok (.inl ())))
    unfold lower_Type_l1
    by_cases hi : i < 19
    · rw [if_pos hi, if_pos hi, if_pos (show 0 ≤ i ∧ i < 19 ∧ i < (wordsL.length : Int) from ⟨h0, hi, by rw [words_len]; exact hi⟩), if_pos (show 0 ≤ i ∧ i < (wordsL.length : Int) from ⟨h0, by rw [words_len]; exact hi⟩), wrap64 (by omega), type_loop s k (i + 1) (by omega) (by omega)]
    · rw [if_neg hi, if_neg hi]
theorem type_word (s : List UInt8) : lower_Type s = glossaryref05_Word s := by
  unfold lower_Type glossaryref05_Word wordsX
  rw [R.bind_ok, type_loop s Many 0 (by omega) (by omega)]
  rfl
theorem type_runs (s : List UInt8) : ∀ (k : Nat) (i : Int), 0 ≤ i → i ≤ 19 → 19 < i + k → ∃ r, lower_Type_l1 wordsL s k i = .ok r
  | 0, i, _, h1, h2 => by omega
  | k + 1, i, h0, h1, h2 => by
    unfold lower_Type_l1
    by_cases hi : i < 19
    · rw [if_pos hi, if_pos (show 0 ≤ i ∧ i < 19 ∧ i < (wordsL.length : Int) from ⟨h0, hi, by rw [words_len]; exact hi⟩), wrap64 (by omega)]
      obtain ⟨r, hr⟩ := type_runs s k (i + 1) (by omega) (by omega) (by omega)
      rw [hr]
      by_cases hw : gt wordsL i = []
      · rw [if_pos hw]
        exact ⟨_, rfl⟩
      · rw [if_neg hw, R.bind_ok]
        by_cases hs : gt wordsL i = s
        · rw [if_pos (decide_eq_true hs)]
          exact ⟨_, rfl⟩
        · rw [if_neg (by simp only [decide_eq_true_eq]; exact hs)]
          exact ⟨_, rfl⟩
    · rw [if_neg hi]
      exact ⟨_, rfl⟩
theorem type_ok (s : List UInt8) : ∃ t, lower_Type s = .ok t ∧ glossaryref05_Word s = .ok t := by
  rw [← type_word]
  unfold lower_Type wordsX
  obtain ⟨r, hr⟩ := type_runs s Many 0 (by omega) (by omega) (by unfold Many; omega)
  rw [R.bind_ok, hr]
  cases r with
  | inl u => exact ⟨_, rfl, rfl⟩
  | inr x => exact ⟨_, rfl, rfl⟩
theorem plain_tab : ∀ i : Fin 19, (lower_Plain (i.val : Int)).got = some (wordsL.getD i.val []) ∧ (glossaryref05_Plain (i.val : Int)).got = some (wordsL.getD i.val []) ∧ (wordsL.getD i.val [] = [] ∨ (lower_Type (wordsL.getD i.val [])).got = some (i.val : Int)) := by decide +kernel
theorem plain_ok (t : Int) : ∃ w, lower_Plain t = .ok w ∧ glossaryref05_Plain t = .ok w ∧ (w = [] ∨ lower_Type w = .ok t) := by
  by_cases h0 : t < 0
  · refine ⟨[], ?_, ?_, .inl rfl⟩
    · unfold lower_Plain; rw [if_pos h0]; rfl
    · unfold glossaryref05_Plain; rw [if_pos h0]; rfl
  · by_cases h1 : (19 : Int) ≤ t
    · refine ⟨[], ?_, ?_, .inl rfl⟩
      · unfold lower_Plain wordsX; rw [if_neg h0, R.bind_ok, R.bind_ok, if_pos (decide_eq_true h1)]
      · unfold glossaryref05_Plain; rw [if_neg h0, R.bind_ok, if_pos (decide_eq_true h1)]
    · obtain ⟨n, rfl⟩ : ∃ n : Nat, t = n := ⟨t.toNat, by omega⟩
      obtain ⟨k1, k2, k3⟩ := plain_tab ⟨n, by omega⟩
      exact ⟨_, R.of_got k1, R.of_got k2, k3.imp id R.of_got⟩
theorem types_law (s : List UInt8) (t : Int) : glossarylaw13_LowerTypes s t = .ok true := by
  unfold glossarylaw13_LowerTypes awakeX
  rw [R.bind_ok, if_pos rfl]
  by_cases h : (300 : Int) < (s.length : Int)
  · rw [if_pos h]
  · rw [if_neg h]
    obtain ⟨w, k1, k2, k3⟩ := plain_ok t
    obtain ⟨r, j1, j2⟩ := type_ok s
    rw [k1, R.bind_ok, j1, R.bind_ok, j2, R.bind_ok, if_pos rfl, k2, R.bind_ok, if_pos rfl]
    rcases k3 with rfl | k3
    · rfl
    · by_cases hw : w = []
      · rw [if_pos hw]; rfl
      · rw [if_neg hw, k3]
        simp only [R.bind_ok, decide_true]
theorem lowerTypes_law {Q : Prop} (x0 : List UInt8) (_ : x0.length ≤ maxLen) (x1 : Int) (_ : Q) : CA qprim 3 [.str x0, .int .i64 x1] [] fun r _ => r = .ret (.bool true) :=
  glossarylaw13_LowerTypes_call (KK := fun r => r = true) (X := fun _ => False) (by rw [types_law]; exact rfl) (fun r h => by rw [h]) (fun v h => h.elim)
end Go.Proofs.YtiigffdmjdooeaaGreatDoor.Pv
