/- Quoted texts: what both write. -/
import Derived.Test.YtgbgnglngpbehaaG13
import Derived.Test.YtgbgnglngpbehaaLA
import Derived.Test.YtgbgnglngpbehaaPwX
set_option linter.unusedVariables false
set_option linter.unusedSimpArgs false
set_option maxRecDepth 20000
namespace Go.Proofs.Ytgbgnglngpbehaa.Pv
open Go Go.Proofs

def o1 (c : UInt8) : UInt8 := UInt8.ofNat (48 + c.toNat / 64)
def o2 (c : UInt8) : UInt8 := UInt8.ofNat (48 + c.toNat / 8 % 8)
def o3 (c : UInt8) : UInt8 := UInt8.ofNat (48 + c.toNat % 8)
/-- What a byte is written as. -/
def qe (c : UInt8) : List UInt8 :=
  if c = 34 ∨ c = 92 then [92, c] else if c = 9 then [92, 116] else if c = 10 then [92, 110] else if c = 13 then [92, 114]
  else if 32 ≤ c.toNat ∧ c.toNat < 127 then [c] else [92, o1 c, o2 c, o3 c]
def qt (b : List UInt8) : List UInt8 := 34 :: (b.flatMap qe ++ [34])

theorem tab1 : ∀ i : Fin 256, u8 (IntKind.wrap .u8 (48 + ((u8 (bitsV .and .u8 ((u8 (Int.fdiv ((UInt8.ofNat i.val).toNat : Int) (2 ^ (min (Int.toNat 6) 8)))).toNat : Int) 7)).toNat : Int))) = o1 (UInt8.ofNat i.val) := by decide +kernel
theorem tab2 : ∀ i : Fin 256, u8 (IntKind.wrap .u8 (48 + ((u8 (bitsV .and .u8 ((u8 (Int.fdiv ((UInt8.ofNat i.val).toNat : Int) (2 ^ (min (Int.toNat 3) 8)))).toNat : Int) 7)).toNat : Int))) = o2 (UInt8.ofNat i.val) := by decide +kernel
theorem tab3 : ∀ i : Fin 256, u8 (IntKind.wrap .u8 (48 + ((u8 (bitsV .and .u8 ((u8 (Int.fdiv ((UInt8.ofNat i.val).toNat : Int) (2 ^ (min (Int.toNat 0) 8)))).toNat : Int) 7)).toNat : Int))) = o3 (UInt8.ofNat i.val) := by decide +kernel
theorem tab4 : ∀ i : Fin 256, u8 (IntKind.wrap .u8 (48 + ((u8 (IntKind.wrap .u8 (Int.tdiv ((UInt8.ofNat i.val).toNat : Int) 64))).toNat : Int))) = o1 (UInt8.ofNat i.val) := by decide +kernel
theorem tab5 : ∀ i : Fin 256, u8 (IntKind.wrap .u8 (48 + ((u8 (Int.tmod ((u8 (IntKind.wrap .u8 (Int.tdiv ((UInt8.ofNat i.val).toNat : Int) 8))).toNat : Int) 8)).toNat : Int))) = o2 (UInt8.ofNat i.val) := by decide +kernel
theorem tab6 : ∀ i : Fin 256, u8 (IntKind.wrap .u8 (48 + ((u8 (Int.tmod ((UInt8.ofNat i.val).toNat : Int) 8)).toNat : Int))) = o3 (UInt8.ofNat i.val) := by decide +kernel
theorem tab7 : ∀ i : Fin 256, i.val < 128 → (Utf8.encode (IntKind.wrap .i32 ((UInt8.ofNat i.val).toNat : Int))).data.toList = [UInt8.ofNat i.val] := by decide +kernel
theorem tab8 : ∀ i : Fin 256, (o1 (UInt8.ofNat i.val)).toNat < 128 ∧ (o2 (UInt8.ofNat i.val)).toNat < 128 ∧ (o3 (UInt8.ofNat i.val)).toNat < 128 := by decide +kernel
theorem enc1 {c : UInt8} (h : c.toNat < 128) : (Utf8.encode (IntKind.wrap .i32 (c.toNat : Int))).data.toList = [c] := by
  have := tab7 ⟨c.toNat, c.toNat_lt⟩ h
  simpa using this
theorem oct (c : UInt8) : (o1 c).toNat < 128 ∧ (o2 c).toNat < 128 ∧ (o3 c).toNat < 128 := bytes_all (p := fun c => (o1 c).toNat < 128 ∧ (o2 c).toNat < 128 ∧ (o3 c).toNat < 128) tab8 c
theorem t1 (c : UInt8) : u8 (IntKind.wrap .u8 (48 + ((u8 (bitsV .and .u8 ((u8 (Int.fdiv (c.toNat : Int) (2 ^ (min (Int.toNat 6) 8)))).toNat : Int) 7)).toNat : Int))) = o1 c := bytes_all (p := fun c => u8 (IntKind.wrap .u8 (48 + ((u8 (bitsV .and .u8 ((u8 (Int.fdiv (c.toNat : Int) (2 ^ (min (Int.toNat 6) 8)))).toNat : Int) 7)).toNat : Int))) = o1 c) tab1 c
theorem t2 (c : UInt8) : u8 (IntKind.wrap .u8 (48 + ((u8 (bitsV .and .u8 ((u8 (Int.fdiv (c.toNat : Int) (2 ^ (min (Int.toNat 3) 8)))).toNat : Int) 7)).toNat : Int))) = o2 c := bytes_all (p := fun c => u8 (IntKind.wrap .u8 (48 + ((u8 (bitsV .and .u8 ((u8 (Int.fdiv (c.toNat : Int) (2 ^ (min (Int.toNat 3) 8)))).toNat : Int) 7)).toNat : Int))) = o2 c) tab2 c
theorem t3 (c : UInt8) : u8 (IntKind.wrap .u8 (48 + ((u8 (bitsV .and .u8 ((u8 (Int.fdiv (c.toNat : Int) (2 ^ (min (Int.toNat 0) 8)))).toNat : Int) 7)).toNat : Int))) = o3 c := bytes_all (p := fun c => u8 (IntKind.wrap .u8 (48 + ((u8 (bitsV .and .u8 ((u8 (Int.fdiv (c.toNat : Int) (2 ^ (min (Int.toNat 0) 8)))).toNat : Int) 7)).toNat : Int))) = o3 c) tab3 c
theorem t4 (c : UInt8) : u8 (IntKind.wrap .u8 (48 + ((u8 (IntKind.wrap .u8 (Int.tdiv (c.toNat : Int) 64))).toNat : Int))) = o1 c := bytes_all (p := fun c => u8 (IntKind.wrap .u8 (48 + ((u8 (IntKind.wrap .u8 (Int.tdiv (c.toNat : Int) 64))).toNat : Int))) = o1 c) tab4 c
theorem t5 (c : UInt8) : u8 (IntKind.wrap .u8 (48 + ((u8 (Int.tmod ((u8 (IntKind.wrap .u8 (Int.tdiv (c.toNat : Int) 8))).toNat : Int) 8)).toNat : Int))) = o2 c := bytes_all (p := fun c => u8 (IntKind.wrap .u8 (48 + ((u8 (Int.tmod ((u8 (IntKind.wrap .u8 (Int.tdiv (c.toNat : Int) 8))).toNat : Int) 8)).toNat : Int))) = o2 c) tab5 c
theorem t6 (c : UInt8) : u8 (IntKind.wrap .u8 (48 + ((u8 (Int.tmod (c.toNat : Int) 8)).toNat : Int))) = o3 c := bytes_all (p := fun c => u8 (IntKind.wrap .u8 (48 + ((u8 (Int.tmod (c.toNat : Int) 8)).toNat : Int))) = o3 c) tab6 c

theorem wb {b : Bool} {l : List UInt8} {c : UInt8} (h : l.length < 1000000000) : strings_Builder_WriteByte b l c = .ok (true, l ++ [c]) := by
  unfold strings_Builder_WriteByte strings_Builder_copyCheck
  simp only [R.sure_ok, R.bind_ok, List.length_cons, List.length_nil]
  rw [if_pos (by omega)]
theorem byte_eq {c : UInt8} {n : Nat} (hn : n < 256) : ((c.toNat : Int) = (n : Int)) ↔ c = UInt8.ofNat n := by
  constructor
  · intro h
    apply UInt8.toNat_inj.1
    rw [toNat_ofNat_lt hn]; omega
  · intro h; subst h; rw [toNat_ofNat_lt hn]
theorem qe_len (c : UInt8) : (qe c).length ≤ 4 := by
  unfold qe
  split
  · simp
  · split
    · simp
    · split
      · simp
      · split
        · simp
        · split <;> simp
theorem eq34 {c : UInt8} : ((c.toNat : Int) = 34) = (c = 34) := propext (byte_eq (n := 34) (by decide))
theorem eq92 {c : UInt8} : ((c.toNat : Int) = 92) = (c = 92) := propext (byte_eq (n := 92) (by decide))
theorem eq9 {c : UInt8} : ((c.toNat : Int) = 9) = (c = 9) := propext (byte_eq (n := 9) (by decide))
theorem eq10 {c : UInt8} : ((c.toNat : Int) = 10) = (c = 10) := propext (byte_eq (n := 10) (by decide))
theorem eq13 {c : UInt8} : ((c.toNat : Int) = 13) = (c = 13) := propext (byte_eq (n := 13) (by decide))

theorem oct_loop {x0 : List UInt8} {i : Nat} (hi : i < x0.length) {l : List UInt8} (hl : l.length < 100000000) : quote_Text_l3 x0 (i : Int) Many 6 true l = .ok (true, l ++ [o1 x0[i], o2 x0[i], o3 x0[i]]) := by
  have hm : Many = 999999996 + 1 + 1 + 1 + 1 := rfl
  have hg := gt_at hi
  rw [hm]
  have w3 : IntKind.wrap .i64 (6 - 3) = 3 := by decide
  have w0 : IntKind.wrap .i64 (3 - 3) = 0 := by decide
  have wm : IntKind.wrap .i64 (0 - 3) = -3 := by decide
  rw [quote_Text_l3, if_pos (by decide), if_pos (by decide), hg, t1, wb (by omega), R.sure_ok, R.bind_ok, w3]
  rw [quote_Text_l3, if_pos (by decide), if_pos (by decide), hg, t2, wb (by simp; omega), R.sure_ok, R.bind_ok, w0]
  rw [quote_Text_l3, if_pos (by decide), if_pos (by decide), hg, t3, wb (by simp; omega), R.sure_ok, R.bind_ok, wm]
  rw [quote_Text_l3, if_neg (by decide)]
  simp

theorem ix9 : strings_IndexByte [7, 8, 12, 10, 13, 9, 11, 92, 39, 34, 63] 9 = .ok 5 := by kernel_rfl
theorem ix10 : strings_IndexByte [7, 8, 12, 10, 13, 9, 11, 92, 39, 34, 63] 10 = .ok 3 := by kernel_rfl
theorem ix13 : strings_IndexByte [7, 8, 12, 10, 13, 9, 11, 92, 39, 34, 63] 13 = .ok 4 := by kernel_rfl

theorem text_loop {x0 : List UInt8} (hl : x0.length ≤ 1100000) : ∀ (d k i : Nat) (l : List UInt8), i + d = x0.length → d < k → l.length ≤ 4 * i + 1 → quote_Text_l1 x0 k (i : Int) true l = .ok (true, l ++ (x0.drop i).flatMap qe)
  | 0, k, i, l, hi, hk, hll => by
    obtain ⟨k, rfl⟩ : ∃ m, k = m + 1 := ⟨k - 1, by omega⟩
    rw [quote_Text_l1, if_neg (by omega), List.drop_eq_nil_of_le (by omega)]
    simp
  | d + 1, k, i, l, hi, hk, hll => by
    obtain ⟨k, rfl⟩ : ∃ m, k = m + 1 := ⟨k - 1, by omega⟩
    have hlt : i < x0.length := by omega
    have hg := gt_at hlt
    have hq : (qe x0[i]).length ≤ 4 := qe_len _
    have ih := text_loop hl d k (i + 1) (l ++ qe x0[i]) (by omega) (by omega) (by simp; omega)
    have hd := drop_at hlt
    have hj : ∀ b l', quote_Text_j2 (quote_Text_l1 x0 k) (i : Int) b l' = quote_Text_l1 x0 k ((i + 1 : Nat) : Int) b l' := fun b l' => by rw [quote_Text_j2, next64 (by omega)]
    have hfin : ∀ l', l' = l ++ qe x0[i] → quote_Text_l1 x0 k ((i + 1 : Nat) : Int) true l' = .ok (true, l ++ (x0.drop i).flatMap qe) := by
      rintro _ rfl
      rw [ih, hd]; simp only [List.flatMap_cons, List.append_assoc]
    rw [quote_Text_l1, if_pos (by omega), if_pos (by omega)]
    simp only [hg, hj, bind_if, R.bind_ok, eq34, eq92, eq9, eq10, eq13, decide_eq_true_eq, if_true]
    generalize hcc : x0[i] = c at *
    by_cases h1 : c = 34
    · rw [if_pos h1, wb (by omega), R.sure_ok, R.bind_ok, wb (by simp; omega), R.sure_ok, R.bind_ok]
      exact hfin _ (by simp [qe, h1])
    rw [if_neg h1]
    by_cases h2 : c = 92
    · rw [if_pos h2, wb (by omega), R.sure_ok, R.bind_ok, wb (by simp; omega), R.sure_ok, R.bind_ok]
      exact hfin _ (by simp [qe, h2])
    rw [if_neg h2]
    by_cases h3 : c = 9
    · subst h3
      rw [if_pos rfl, wb (by omega), R.sure_ok, R.bind_ok, ix9, R.bind_ok, if_pos (by decide), wb (by simp; omega), R.sure_ok, R.bind_ok]
      exact hfin _ (by simp [qe])
    rw [if_neg h3]
    by_cases h4 : c = 10
    · subst h4
      rw [if_pos rfl, wb (by omega), R.sure_ok, R.bind_ok, ix10, R.bind_ok, if_pos (by decide), wb (by simp; omega), R.sure_ok, R.bind_ok]
      exact hfin _ (by simp [qe])
    rw [if_neg h4]
    by_cases h5 : c = 13
    · subst h5
      rw [if_pos rfl, wb (by omega), R.sure_ok, R.bind_ok, ix13, R.bind_ok, if_pos (by decide), wb (by simp; omega), R.sure_ok, R.bind_ok]
      exact hfin _ (by simp [qe])
    rw [if_neg h5]
    have ho := oct_loop hlt (l := l ++ [92]) (by simp; omega)
    rw [hcc] at ho
    by_cases h6 : (32 : Int) ≤ (c.toNat : Int)
    · rw [if_pos h6]
      by_cases h7 : (c.toNat : Int) < 127
      · rw [if_pos h7, wb (by omega), R.sure_ok, R.bind_ok]
        exact hfin _ (by simp only [qe, h1, h2, h3, h4, h5, or_self, if_false]; rw [if_pos (by omega)])
      · rw [if_neg h7, wb (by omega), R.sure_ok, R.bind_ok, ho, R.bind_ok]
        exact hfin _ (by simp only [qe, h1, h2, h3, h4, h5, or_self, if_false]; rw [if_neg (by omega)]; simp)
    · rw [if_neg h6, if_neg (by decide), wb (by omega), R.sure_ok, R.bind_ok, ho, R.bind_ok]
      exact hfin _ (by simp only [qe, h1, h2, h3, h4, h5, or_self, if_false]; rw [if_neg (by omega)]; simp)

theorem flat_len4 : ∀ b : List UInt8, (b.flatMap qe).length ≤ 4 * b.length
  | [] => by simp
  | c :: b => by
    have := qe_len c
    have := flat_len4 b
    simp only [List.flatMap_cons, List.length_append, List.length_cons]
    omega
theorem qt_len (b : List UInt8) : (qt b).length ≤ 4 * b.length + 2 := by
  have := flat_len4 b
  simp only [qt, List.length_cons, List.length_append, List.length_nil]
  omega
theorem text_ok {b : List UInt8} (hl : b.length ≤ 1100000) : quote_Text b = .ok (qt b) := by
  have h := flat_len4 b
  unfold quote_Text
  rw [wb (by simp), R.sure_ok, R.bind_ok]
  have := text_loop hl b.length Many 0 ([] ++ [34]) (by omega) (many_gt (by omega)) (by simp)
  simp only [Int.ofNat_zero, Int.cast_ofNat_Int, Int.natCast_zero] at this
  rw [this, R.bind_ok]
  simp only [quote_Text_j0]
  rw [wb (by simp only [List.length_append, List.length_cons, List.length_nil, List.drop_zero]; omega), R.sure_ok, R.bind_ok]
  simp only [strings_Builder_String, R.sure_ok, R.bind_ok, qt]
  simp
end Go.Proofs.Ytgbgnglngpbehaa.Pv
