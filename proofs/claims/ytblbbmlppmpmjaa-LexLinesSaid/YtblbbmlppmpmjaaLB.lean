/- Any text as comments. -/
import Derived.Test.YtblbbmlppmpmjaaG12
import Derived.Test.YtblbbmlppmpmjaaLA
set_option linter.unusedVariables false
set_option linter.unusedSimpArgs false
set_option maxRecDepth 20000
namespace Go.Proofs.Ytblbbmlppmpmjaa.Pv
open Go Go.Proofs

def pre : List UInt8 → List UInt8
  | [] => []
  | c :: l => if c = 10 then [] else c :: pre l
def post : List UInt8 → List UInt8
  | [] => []
  | c :: l => if c = 10 then l else post l
def has10 : List UInt8 → Bool
  | [] => false
  | c :: l => if c = 10 then true else has10 l
theorem cut10 (x : List UInt8) : Lib.cut x [10] = (pre x, post x, has10 x) := by
  induction x with
  | nil => rfl
  | cons c l ih =>
    unfold Lib.cut at ih ⊢
    have hge := Lib.index_ge l [10]
    by_cases hc : c = 10
    · subst hc
      simp [Lib.index, List.isPrefixOf, pre, post, has10]
    · have h1 : (10 == c) = false := by simpa using fun e => hc e.symm
      simp only [Lib.index, List.isPrefixOf, h1, Bool.false_and, Bool.false_eq_true, if_false, pre, post, has10, hc]
      by_cases hi : Lib.index l [10] = -1
      · have h2 : (Lib.index l [10] == -1) = true := by simp [hi]
        rw [hi, if_neg (by decide)] at ih
        simp only [h2, if_true]
        rw [if_neg (by decide)]
        simp only [Prod.mk.injEq] at ih ⊢
        exact ⟨by rw [← ih.1], ih.2.1, ih.2.2⟩
      · have h0 : 0 ≤ Lib.index l [10] := by omega
        rw [if_pos h0] at ih
        have h2 : (Lib.index l [10] == -1) = false := by simpa using hi
        simp only [h2, Bool.false_eq_true, if_false]
        rw [if_pos (by omega)]
        have e1 : (Lib.index l [10] + 1).toNat = (Lib.index l [10]).toNat + 1 := by omega
        simp only [Prod.mk.injEq] at ih ⊢
        rw [e1]
        refine ⟨by simp [← ih.1], ?_, ih.2.2⟩
        rw [← ih.2.1, Nat.add_right_comm, List.drop_succ_cons]
theorem pre_le (x : List UInt8) : (pre x).length ≤ x.length := by
  induction x with
  | nil => simp [pre]
  | cons c l ih => unfold pre; split <;> simp <;> omega
theorem post_lt (c : UInt8) (l : List UInt8) : (post (c :: l)).length ≤ l.length := by
  induction l generalizing c with
  | nil => unfold post; split <;> simp [post]
  | cons d l ih =>
    unfold post
    split
    · simp
    · have := ih d; simp only [List.length_cons]; omega
theorem pre_post_le (x : List UInt8) : (pre x).length + (post x).length ≤ x.length := by
  induction x with
  | nil => simp [pre, post]
  | cons c l ih => unfold pre post; split <;> simp <;> omega

/-- Text as comments. -/
def D (x : List UInt8) : List UInt8 :=
  match x with
  | [] => []
  | c :: l => [47, 47] ++ pre (c :: l) ++ [10] ++ D (post (c :: l))
termination_by x.length
decreasing_by have := post_lt c l; simp only [List.length_cons]; omega
theorem D_nil : D [] = [] := by rw [D]
theorem D_ne {x : List UInt8} (h : x ≠ []) : D x = [47, 47] ++ pre x ++ [10] ++ D (post x) := by
  cases x with
  | nil => exact absurd rfl h
  | cons c l => rw [D]
theorem D_len (n : Nat) : ∀ x : List UInt8, x.length ≤ n → (D x).length ≤ 4 * x.length := by
  induction n with
  | zero =>
    intro x hx
    obtain rfl := List.eq_nil_of_length_eq_zero (by omega : x.length = 0)
    simp [D_nil]
  | succ n ih =>
    intro x hx
    cases x with
    | nil => simp [D_nil]
    | cons c l =>
      rw [D_ne (by simp)]
      have h1 := ih (post (c :: l)) (by have := post_lt c l; simp only [List.length_cons] at hx; omega)
      have h2 := pre_post_le (c :: l)
      have h3 := post_lt c l
      simp only [List.length_append, List.length_cons, List.length_nil] at h1 h2 h3 ⊢
      omega

theorem write_ok {b : Bool} {l s : List UInt8} (h : l.length + s.length ≤ 1000000000) : strings_Builder_WriteString b l s = .ok ((s.length : Int), true, l ++ s) := by
  unfold strings_Builder_WriteString strings_Builder_copyCheck
  simp only [R.sure_ok, R.bind_ok]
  rw [if_pos h]
theorem doc_loop (n : Nat) : ∀ (x : List UInt8) (k : Nat) (b : Bool) (out : List UInt8), x.length ≤ n → n ≤ 100000 → out.length + 4 * x.length ≤ 10000000 → n < k → ∃ b', lex_Doc_l1 k x b out = .ok (b', out ++ D x) := by
  induction n with
  | zero =>
    intro x k b out hx hn ho hk
    obtain rfl := List.eq_nil_of_length_eq_zero (by omega : x.length = 0)
    obtain ⟨k, rfl⟩ : ∃ k', k = k' + 1 := ⟨k - 1, by omega⟩
    exact ⟨b, by rw [lex_Doc_l1, if_pos rfl, D_nil, List.append_nil]⟩
  | succ n ih =>
    intro x k b out hx hn ho hk
    obtain ⟨k, rfl⟩ : ∃ k', k = k' + 1 := ⟨k - 1, by omega⟩
    cases x with
    | nil => exact ⟨b, by rw [lex_Doc_l1, if_pos rfl, D_nil, List.append_nil]⟩
    | cons c l =>
      have h2 := pre_post_le (c :: l)
      have h3 := post_lt c l
      simp only [List.length_cons] at hx ho h2
      rw [lex_Doc_l1, if_neg (by simp), strings_Cut, if_pos (by simp only [List.length_cons]; omega), cut10]
      simp only [R.bind_ok]
      rw [if_pos (by simp only [List.length_cons, List.length_nil]; omega), if_pos (by simp only [List.length_append, List.length_cons, List.length_nil]; omega), write_ok (by simp only [List.length_append, List.length_cons, List.length_nil]; omega)]
      simp only [R.sure_ok, R.bind_ok]
      obtain ⟨b', h⟩ := ih (post (c :: l)) k true (out ++ (([47, 47] ++ pre (c :: l)) ++ [10])) (by omega) (by omega) (by simp only [List.length_append, List.length_cons, List.length_nil]; omega) (by omega)
      refine ⟨b', ?_⟩
      rw [h, D_ne (x := c :: l) (by simp)]
      simp only [List.append_assoc]
theorem doc_ok {x : List UInt8} (hx : x.length ≤ 100000) : lex_Doc x = .ok (D x) := by
  unfold lex_Doc
  obtain ⟨b', h⟩ := doc_loop x.length x Many false [] (Nat.le_refl _) hx (by simp only [List.length_nil]; omega) (many_gt (by omega))
  rw [h]
  simp only [R.bind_ok, lex_Doc_j0, strings_Builder_String, R.sure_ok, List.nil_append]

theorem not10 {c : UInt8} (h : c ≠ 10) : ¬ ((c.toNat : Int) = 10) := fun e => h (UInt8.toNat_inj.1 (show c.toNat = 10 by omega))
theorem ref_loop {x : List UInt8} (hx : x.length ≤ 600) : ∀ (n k i from_ : Nat) (out : List UInt8), i + n = x.length → from_ ≤ i → n < k → out.length + 4 * (x.length - from_) ≤ 10000 →
    pre (x.drop from_) = (x.drop from_).take (i - from_) ++ pre (x.drop i) → post (x.drop from_) = post (x.drop i) →
    ((glossaryref05_Doc_l1 x k out (from_ : Int) (i : Int)).bind fun q => glossaryref05_Doc_j0 x q.1 q.2) = .ok (out ++ D (x.drop from_)) := by
  intro n
  induction n with
  | zero =>
    intro k i f out hi hf hk ho h1 h2
    obtain ⟨k, rfl⟩ : ∃ k', k = k' + 1 := ⟨k - 1, by omega⟩
    rw [glossaryref05_Doc_l1, if_neg (by omega)]
    simp only [R.bind_ok, glossaryref05_Doc_j0]
    have hi' : x.drop i = [] := List.drop_eq_nil_of_le (by omega)
    rw [hi'] at h1 h2
    by_cases hfl : f < x.length
    · have hl : (x.drop f).length = x.length - f := by simp
      rw [if_pos (by omega), if_pos (by omega), Int.toNat_natCast, if_pos (by simp only [List.length_cons, List.length_nil, hl]; omega), if_pos (by simp only [List.length_append, List.length_cons, List.length_nil, hl]; omega), if_pos (by simp only [List.length_append, List.length_cons, List.length_nil, hl]; omega)]
      have hp : pre (x.drop f) = x.drop f := by
        rw [h1]
        simp only [pre, List.append_nil]
        exact List.take_of_length_le (by omega)
      rw [D_ne (by intro e; rw [e] at hl; simp at hl; omega), hp, h2]
      simp only [post, D_nil, List.append_nil, List.append_assoc]
    · rw [if_neg (by omega), List.drop_eq_nil_of_le (by omega), D_nil, List.append_nil]
  | succ n ih =>
    intro k i f out hi hf hk ho h1 h2
    obtain ⟨k, rfl⟩ : ∃ k', k = k' + 1 := ⟨k - 1, by omega⟩
    have hil : i < x.length := by omega
    rw [glossaryref05_Doc_l1, if_pos (by omega), if_pos (by omega), Int.toNat_natCast, getD_at hil]
    rw [drop_at hil] at h1 h2
    by_cases hc : x[i] = 10
    · rw [hc] at h1 h2 ⊢
      rw [if_pos (by decide), next64 (by omega), if_pos (by omega), Int.toNat_natCast, Int.toNat_natCast]
      have hl : (List.drop f (List.take (i + 1) x)).length = i + 1 - f := by simp only [List.length_drop, List.length_take]; omega
      rw [if_pos (by simp only [List.length_cons, List.length_nil, hl]; omega), if_pos (by simp only [List.length_append, List.length_cons, List.length_nil, hl]; omega)]
      rw [ih k (i + 1) (i + 1) _ (by omega) (Nat.le_refl _) (by omega) (by simp only [List.length_append, List.length_cons, List.length_nil, hl]; omega) (by simp) rfl]
      have hne : x.drop f ≠ [] := by intro e; have := congrArg List.length e; simp at this; omega
      rw [D_ne hne, h1, h2]
      simp only [pre, post, if_pos, List.append_nil]
      have ht : List.drop f (List.take (i + 1) x) = List.take (i - f) (x.drop f) ++ [10] := by
        rw [List.drop_take, show i + 1 - f = (i - f) + 1 by omega, List.take_add_one]
        congr 1
        rw [List.getElem?_drop, show f + (i - f) = i by omega, List.getElem?_eq_getElem hil, hc]
        rfl
      rw [ht]
      simp only [List.append_assoc]
    · have hcc : ¬ ((x[i].toNat : Int) = 10) := not10 hc
      rw [if_neg hcc, next64 (by omega)]
      simp only [pre, post, if_neg hc] at h1 h2
      refine ih k (i + 1) f out (by omega) (by omega) (by omega) ho ?_ h2
      rw [h1, show i + 1 - f = (i - f) + 1 by omega, List.take_add_one, List.getElem?_drop, show f + (i - f) = i by omega, List.getElem?_eq_getElem hil]
      simp
theorem refDoc_ok {x : List UInt8} (hx : x.length ≤ 600) : glossaryref05_Doc x = .ok (D x) := by
  unfold glossaryref05_Doc
  have h := ref_loop hx x.length Many 0 0 [] (by omega) (Nat.le_refl _) (many_gt (by omega)) (by simp only [List.length_nil]; omega) (by simp) rfl
  simp only [List.drop_zero, List.nil_append] at h
  exact h

theorem docs_plain (x : List UInt8) : glossarylaw05_LexDocs x = .ok true := by
  unfold glossarylaw05_LexDocs
  rw [awake_ok]
  simp only [R.bind_ok, if_true]
  by_cases hx : x.length ≤ 600
  · rw [if_neg (by omega), doc_ok (by omega), refDoc_ok hx]
    simp
  · rw [if_pos (by omega)]
    rfl
theorem docs_law (x : List UInt8) : CA qprim 5 [.str x] [] fun r _ => r = .ret (.bool true) := by
  refine glossarylaw05_LexDocs_call (x0 := x) (KK := fun r => r = true) (X := fun _ => False) (by rw [docs_plain]; exact rfl) (fun r hr => by rw [hr]) (fun v hv => hv.elim)
end Go.Proofs.Ytblbbmlppmpmjaa.Pv
