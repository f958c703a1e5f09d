/- Line and column of any place. -/
import Derived.Test.YtblbbmlppmpmjaaG14
import Derived.Test.YtblbbmlppmpmjaaLA
import Derived.Test.YtblbbmlppmpmjaaLB
set_option linter.unusedVariables false
set_option linter.unusedSimpArgs false
set_option maxRecDepth 20000
namespace Go.Proofs.Ytblbbmlppmpmjaa.Pv
open Go Go.Proofs

theorem flt_tab : ∀ i : Fin 700, ((FloatKind.decode .f64 (FloatKind.nearest .f64 (i.val : Int))).toInt .zero) = some (i.val : Int) ∧ ((FloatKind.format .f64).order (FloatKind.nearest .f64 (i.val : Int)) (FloatKind.nearest .f64 (i.val : Int)) == some .eq) = true := by decide +kernel
theorem flt_back {n : Nat} (h : n < 700) : ((FloatKind.decode .f64 (FloatKind.nearest .f64 (n : Int))).toInt .zero) = some (n : Int) ∧ ((FloatKind.format .f64).order (FloatKind.nearest .f64 (n : Int)) (FloatKind.nearest .f64 (n : Int)) == some .eq) = true := flt_tab ⟨n, h⟩

/-- Where the line of a place begins. -/
def lb (x : List UInt8) : Nat → Nat
  | 0 => 0
  | n + 1 => if x.getD n 0 = 10 then n + 1 else lb x n
theorem lb_le (x : List UInt8) : ∀ n, lb x n ≤ n
  | 0 => Nat.le_refl _
  | n + 1 => by
    unfold lb
    have := lb_le x n
    split <;> omega
theorem lb_take (x : List UInt8) (a : Nat) : ∀ n, n ≤ a → a ≤ x.length → lb (x.take a) n = lb x n
  | 0, _, _ => rfl
  | n + 1, h, ha => by
    unfold lb
    have e : (x.take a).getD n 0 = x.getD n 0 := by
      rw [getD_at (by simp; omega), getD_at (by omega), List.getElem_take]
    rw [e, lb_take x a n (by omega) ha]
theorem last_loop {p : List UInt8} (hp : p.length ≤ 100000) : ∀ (j k : Nat), j ≤ p.length → j < k → bytealg_LastIndexByteString_l1 p 10 k ((j : Int) - 1) = .ok (if lb p j = 0 then .inl () else .inr ((lb p j : Int) - 1))
  | 0, k, hj, hk => by
    obtain ⟨k, rfl⟩ : ∃ m, k = m + 1 := ⟨k - 1, by omega⟩
    rw [bytealg_LastIndexByteString_l1, if_neg (by omega)]
    rfl
  | j + 1, k, hj, hk => by
    obtain ⟨k, rfl⟩ : ∃ m, k = m + 1 := ⟨k - 1, by omega⟩
    have e1 : ((j + 1 : Nat) : Int) - 1 = (j : Int) := by omega
    rw [e1, bytealg_LastIndexByteString_l1, if_pos (by omega), if_pos (by omega), Int.toNat_natCast]
    unfold lb
    by_cases h : p.getD j 0 = 10
    · rw [h, if_pos rfl, if_pos rfl, if_neg (by omega), e1]
    · rw [if_neg (fun e => h (UInt8.toNat_inj.1 (by omega))), if_neg h, wrap64 (by omega)]
      exact last_loop hp j k (by omega) (by omega)
theorem last_ok {p : List UInt8} (hp : p.length ≤ 100000) : strings_LastIndexByte p 10 = .ok ((lb p p.length : Int) - 1) := by
  unfold strings_LastIndexByte bytealg_LastIndexByteString
  rw [wrap64 (by omega), last_loop hp p.length Many (Nat.le_refl _) (many_gt (by omega))]
  by_cases h : lb p p.length = 0
  · rw [if_pos h, h]; rfl
  · rw [if_neg h]; rfl
theorem lineAt_loop {x : List UInt8} (hx : x.length ≤ 600) : ∀ (n k : Nat), n ≤ x.length → n < k → glossaryref05_lineAt_l1 x k (n : Int) = .ok (lb x n : Int)
  | 0, k, hn, hk => by
    obtain ⟨k, rfl⟩ : ∃ m, k = m + 1 := ⟨k - 1, by omega⟩
    rw [glossaryref05_lineAt_l1, if_neg (by omega)]
    rfl
  | n + 1, k, hn, hk => by
    obtain ⟨k, rfl⟩ : ∃ m, k = m + 1 := ⟨k - 1, by omega⟩
    have ew : IntKind.wrap .i64 (((n + 1 : Nat) : Int) - 1) = (n : Int) := by rw [wrap64 (by omega)]; omega
    rw [glossaryref05_lineAt_l1, if_pos (by omega), ew, if_pos (by omega), Int.toNat_natCast]
    simp only [R.bind_ok]
    unfold lb
    by_cases h : x.getD n 0 = 10
    · rw [h, if_pos rfl, decide_eq_true (show ((10 : UInt8).toNat : Int) = 10 from rfl)]
      simp only [Bool.not_true, Bool.false_eq_true, if_false]
    · rw [decide_eq_false (not10 h), if_neg h]
      simp only [Bool.not_false, if_true]
      exact lineAt_loop hx n k (by omega) (by omega)
theorem lineAt_ok {x : List UInt8} (hx : x.length ≤ 600) {n : Nat} (hn : n ≤ x.length) : glossaryref05_lineAt x (n : Int) = .ok (lb x n : Int) := by
  unfold glossaryref05_lineAt
  rw [lineAt_loop hx n Many hn (many_gt (by omega))]
  rfl
/-- A place of a text. -/
def clamp (x : List UInt8) (n : Int) : Nat := if n < 0 then 0 else if (x.length : Int) < n then x.length else n.toNat
theorem clamp_le (x : List UInt8) (n : Int) : clamp x n ≤ x.length := by unfold clamp; split <;> (try split) <;> omega
theorem clamp_eq (x : List UInt8) (n : Int) : (if (List.length x : Int) < (if n < 0 then 0 else n) then (List.length x : Int) else (if n < 0 then 0 else n)) = (clamp x n : Int) := by
  unfold clamp
  by_cases h : n < 0
  · rw [if_pos h, if_pos h, if_neg (by omega)]; rfl
  · rw [if_neg h, if_neg h]
    by_cases h2 : (x.length : Int) < n
    · rw [if_pos h2, if_pos h2]
    · rw [if_neg h2, if_neg h2]; omega
theorem refline_loop {x : List UInt8} (hx : x.length ≤ 600) (n : Int) : ∀ (d k i : Nat) (a : Nat), i + d = clamp x n → d < k → a + d ≤ 10000 → glossaryref05_Line_l1 x n k (a : Int) (i : Int) = .ok ((a + ((x.take (clamp x n)).drop i).count 10 : Nat) : Int)
  | 0, k, i, a, hi, hk, ha => by
    obtain ⟨k, rfl⟩ : ∃ m, k = m + 1 := ⟨k - 1, by omega⟩
    have := clamp_le x n
    rw [glossaryref05_Line_l1, clamp_eq, if_neg (by omega), List.drop_eq_nil_of_le (by simp; omega)]
    rfl
  | d + 1, k, i, a, hi, hk, ha => by
    obtain ⟨k, rfl⟩ : ∃ m, k = m + 1 := ⟨k - 1, by omega⟩
    have hc := clamp_le x n
    have hil : i < (x.take (clamp x n)).length := by simp; omega
    have hg : x.getD i 0 = (x.take (clamp x n))[i] := by rw [getD_at (by omega), List.getElem_take]
    have hcl : ((x.take (clamp x n)).drop (i + 1)).count 10 ≤ 600 := by
      have := List.count_le_length (a := (10 : UInt8)) (l := (x.take (clamp x n)).drop (i + 1))
      simp only [List.length_drop, List.length_take] at this
      omega
    rw [glossaryref05_Line_l1, clamp_eq, if_pos (by omega), if_pos (by omega), Int.toNat_natCast, drop_at hil, List.count_cons, ← hg]
    by_cases h : x.getD i 0 = 10
    · rw [h, if_pos (show ((10 : UInt8).toNat : Int) = 10 from rfl)]
      have e : IntKind.wrap .i64 ((a : Int) + 1) = ((a + 1 : Nat) : Int) := by rw [wrap64 (by omega)]; omega
      rw [e, next64 (by omega), refline_loop hx n d k (i + 1) (a + 1) (by omega) (by omega) (by omega)]
      simp only [beq_self_eq_true, if_true]
      congr 2
      omega
    · have hb : (x.getD i 0 == 10) = false := by simpa using h
      rw [if_neg (not10 h), next64 (by omega), refline_loop hx n d k (i + 1) a (by omega) (by omega) (by omega), hb]
      simp
theorem place_ok {x : List UInt8} (hx : x.length ≤ 600) (n : Int) : lex_Place x n = .ok (FloatKind.nearest .f64 ((1 + (x.take (clamp x n)).count 10 : Nat) : Int), FloatKind.nearest .f64 ((clamp x n - lb x (clamp x n) + 1 : Nat) : Int)) := by
  have hc := clamp_le x n
  have hl : (x.take (clamp x n)).length = clamp x n := by simp; omega
  have hb := lb_le x (clamp x n)
  have hcl : (x.take (clamp x n)).count 10 ≤ 600 := by
    have := List.count_le_length (a := (10 : UInt8)) (l := x.take (clamp x n))
    omega
  unfold lex_Place
  simp only [clamp_eq]
  rw [if_pos (by omega), Int.toNat_natCast, strings_Count, if_pos (show ([10] : List UInt8).length = 1 from rfl)]
  simp only [R.bind_ok]
  rw [if_pos (by omega), last_ok (by omega), hl, lb_take x _ _ (Nat.le_refl _) hc]
  simp only [R.bind_ok, List.headD_cons]
  have e1 : IntKind.wrap .i64 ((Lib.countByte (x.take (clamp x n)) 10 : Int) + 1) = ((1 + (x.take (clamp x n)).count 10 : Nat) : Int) := by
    unfold Lib.countByte
    rw [wrap64 (by omega)]; omega
  have e2 : IntKind.wrap .i64 ((clamp x n : Int) - ((lb x (clamp x n) : Int) - 1)) = ((clamp x n - lb x (clamp x n) + 1 : Nat) : Int) := by rw [wrap64 (by omega)]; omega
  rw [e1, e2]
theorem refLine_ok {x : List UInt8} (hx : x.length ≤ 600) (n : Int) : glossaryref05_Line x n = .ok (((1 + (x.take (clamp x n)).count 10 : Nat) : Int), ((clamp x n - lb x (clamp x n) + 1 : Nat) : Int)) := by
  have hc := clamp_le x n
  have hb := lb_le x (clamp x n)
  unfold glossaryref05_Line
  have h := refline_loop hx n (clamp x n) Many 0 1 (by omega) (many_gt (by omega)) (by omega)
  simp only [List.drop_zero] at h
  rw [show ((1 : Nat) : Int) = 1 from rfl, show ((0 : Nat) : Int) = 0 from rfl] at h
  rw [h]
  simp only [R.bind_ok, glossaryref05_Line_j0, clamp_eq]
  rw [lineAt_ok hx hc]
  simp only [R.bind_ok]
  have e : IntKind.wrap .i64 ((IntKind.wrap .i64 ((clamp x n : Int) - (lb x (clamp x n) : Int))) + 1) = ((clamp x n - lb x (clamp x n) + 1 : Nat) : Int) := by
    rw [wrap64 (n := (clamp x n : Int) - (lb x (clamp x n) : Int)) (by omega), wrap64 (by omega)]; omega
  rw [e]
theorem lines_plain (x : List UInt8) (n : Int) : glossarylaw05_LexLines x n = .ok true := by
  unfold glossarylaw05_LexLines
  rw [awake_ok]
  simp only [R.bind_ok, if_true]
  by_cases hx : x.length ≤ 600
  · rw [if_neg (by omega)]
    have hc := clamp_le x n
    have hb := lb_le x (clamp x n)
    have hcl : (x.take (clamp x n)).count 10 ≤ 600 := by
      have := List.count_le_length (a := (10 : UInt8)) (l := x.take (clamp x n))
      simp only [List.length_take] at this
      omega
    have f1 := flt_back (n := 1 + (x.take (clamp x n)).count 10) (by omega)
    have f2 := flt_back (n := clamp x n - lb x (clamp x n) + 1) (by omega)
    have hmin : IntKind.min .i64 = -9223372036854775808 := by decide
    have hmax : IntKind.max .i64 = 9223372036854775807 := by decide
    unfold lex_Line
    rw [place_ok hx n, refLine_ok hx n]
    generalize hp : 1 + (x.take (clamp x n)).count 10 = p at f1 ⊢
    generalize hq : clamp x n - lb x (clamp x n) + 1 = q at f2 ⊢
    simp only [R.bind_ok, f1.1, f2.1, Option.isSome_some, Option.getD_some, true_and, hmin, hmax]
    rw [if_pos (by omega), if_pos (by omega)]
    simp only [R.bind_ok, if_true]
    rw [if_pos f1.2, f2.2]
    rfl
  · rw [if_pos (by omega)]
theorem lines_law (x : List UInt8) (n : Int) (w : (Lit.int .i64 n).wf = true) : CA qprim 7 [.str x, .int .i64 n] [] fun r _ => r = .ret (.bool true) := by
  refine glossarylaw05_LexLines_call (x0 := x) (x1 := n) (KK := fun r => r = true) (X := fun _ => False) (by rw [lines_plain]; exact rfl) (fun r hr => by rw [hr]) (fun v hv => hv.elim)
end Go.Proofs.Ytblbbmlppmpmjaa.Pv
