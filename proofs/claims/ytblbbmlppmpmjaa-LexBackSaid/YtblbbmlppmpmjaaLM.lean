/- Comments ahead of a name are its own. -/
import Derived.Test.YtblbbmlppmpmjaaG13
import Derived.Test.YtblbbmlppmpmjaaLS
import Derived.Test.YtblbbmlppmpmjaaLA
set_option linter.unusedVariables false
set_option linter.unusedSimpArgs false
set_option maxRecDepth 20000
namespace Go.Proofs.Ytblbbmlppmpmjaa.Pv
open Go Go.Proofs

def nm : List UInt8 := [110, 97, 109, 101]
theorem pre_cons (c : UInt8) (l : List UInt8) : pre (c :: l) = if c = 10 then [] else c :: pre l := rfl
theorem pre_clean (x z : List UInt8) : pre (pre x ++ 10 :: z) = pre x := by
  induction x with
  | nil => simp [pre]
  | cons c l ih =>
    rw [pre_cons]
    split
    · simp [pre]
    · rename_i h
      rw [List.cons_append, pre_cons, if_neg h, ih]
theorem pre_post {x : List UInt8} (h : has10 x = true) : pre x ++ [10] ++ post x = x := by
  induction x with
  | nil => cases h
  | cons c l ih =>
    unfold has10 at h
    unfold pre post
    split at h
    · rename_i hc; rw [if_pos hc, if_pos hc, hc]; rfl
    · rename_i hc; rw [if_neg hc, if_neg hc]; simp only [List.cons_append]; rw [ih h]
/-- A text that ends its last line. -/
def Ends (x : List UInt8) : Prop := x = [] ∨ x.getLast? = some 10
theorem Ends.has {x : List UInt8} (h : x.getLast? = some 10) : has10 x = true := by
  induction x with
  | nil => cases h
  | cons c l ih =>
    unfold has10
    split
    · rfl
    · rename_i hc
      cases l with
      | nil => simp at h; exact absurd h hc
      | cons e l => exact ih (by rw [List.getLast?_cons_cons] at h; exact h)
theorem Ends.post {x : List UInt8} (h : x.getLast? = some 10) : Ends (post x) := by
  induction x with
  | nil => cases h
  | cons c l ih =>
    unfold Pv.post
    split
    · cases l with
      | nil => exact .inl rfl
      | cons e l => exact .inr (by rw [List.getLast?_cons_cons] at h; exact h)
    · rename_i hc
      cases l with
      | nil => exact .inl rfl
      | cons e l => exact ih (by rw [List.getLast?_cons_cons] at h; exact h)
theorem D_head (x : List UInt8) (i : Nat) (d : List (List UInt8)) (f m : Bool) : bk (D x ++ nm) i d f m = (D x ++ nm, i, d, f, m) := by
  cases x with
  | nil => rw [D_nil]; rfl
  | cons c l => rw [D_ne (by simp)]; rfl
theorem scanS_cons {k : Nat} {r : List UInt8} {i i' : Nat} {d d' : List (List UInt8)} {f m f' m' : Bool} {c : UInt8} {t : List UInt8} (h : bk r i d f m = (c :: t, i', d', f', m')) : scanS (k + 1) r i d f m =
      if [47, 47].isPrefixOf (c :: t) = true then scanS k ((c :: t).drop (2 + (pre ((c :: t).drop 2)).length)) (i' + 2 + (pre ((c :: t).drop 2)).length) (if f' then d' else d' ++ [pre ((c :: t).drop 2) ++ [10]]) true (if f' then m' else true)
      else if [47, 42].isPrefixOf (c :: t) = true then
        (if (Lib.cut ((c :: t).drop 2) [42, 47]).2.2 = true then scanS k ((c :: t).drop (4 + (Lib.cut ((c :: t).drop 2) [42, 47]).1.length)) (i' + 4 + (Lib.cut ((c :: t).drop 2) [42, 47]).1.length) [] true (if Lib.countByte (Lib.cut ((c :: t).drop 2) [42, 47]).1 10 = 0 then m' else false)
         else .inl ((i' : Int), 51))
      else match tokS (c :: t) with
        | .inl q => .inl (((i' + q.1 : Nat) : Int), q.2)
        | .inr q => match scanS k ((c :: t).drop q.2) (i' + q.2) [] true m' with
          | .inl e => .inl e
          | .inr ts => .inr (mkT q.1 i' (dc f' d' []) :: ts) := by rw [scanS, h]; rfl
theorem name_scan (k i : Nat) (d : List (List UInt8)) : scanS (k + 1 + 1) nm i d false false = .inr [mkT (1, nm, 0) i d.flatten, mkT (0, [], 0) (i + 4) []] := by
  rw [scanS_cons (show bk nm i d false false = (110 :: [97, 109, 101], i, d, false, false) from rfl), if_neg (by decide), if_neg (by decide)]
  rfl
theorem name_tok : tokS nm = .inr ((1, nm, 0), 4) := by rfl
theorem back_scan (n : Nat) : ∀ (x : List UInt8) (k i : Nat) (d : List (List UInt8)), x.length ≤ n → Ends x → n + 2 ≤ k → ∃ a b : Nat, scanS k (D x ++ nm) i d false false = .inr [mkT (1, nm, 0) a (d.flatten ++ x), mkT (0, [], 0) b []] := by
  induction n with
  | zero =>
    intro x k i d hx he hk
    obtain rfl := List.eq_nil_of_length_eq_zero (by omega : x.length = 0)
    obtain ⟨k, rfl⟩ : ∃ k', k = k' + 1 + 1 := ⟨k - 2, by omega⟩
    exact ⟨i, i + 4, by rw [D_nil, List.nil_append, name_scan, List.append_nil]⟩
  | succ n ih =>
    intro x k i d hx he hk
    by_cases h0 : x = []
    · subst h0
      obtain ⟨k, rfl⟩ : ∃ k', k = k' + 1 + 1 := ⟨k - 2, by omega⟩
      exact ⟨i, i + 4, by rw [D_nil, List.nil_append, name_scan, List.append_nil]⟩
    · have hl : x.getLast? = some 10 := he.resolve_left h0
      obtain ⟨k, rfl⟩ : ∃ k', k = k' + 1 + 1 := ⟨k - 2, by omega⟩
      have hlen : (post x).length ≤ n := by
        cases x with
        | nil => exact absurd rfl h0
        | cons c l => have := post_lt c l; simp only [List.length_cons] at hx; omega
      have hD : D x ++ nm = 47 :: 47 :: (pre x ++ 10 :: (D (post x) ++ nm)) := by rw [D_ne h0]; simp
      have hb : bk (D x ++ nm) i d false false = (47 :: (47 :: (pre x ++ 10 :: (D (post x) ++ nm))), i, d, false, false) := by rw [D_head, hD]
      rw [scanS_cons hb, if_pos (by simp [List.isPrefixOf])]
      simp only [List.drop_succ_cons, List.drop_zero, pre_clean, Bool.false_eq_true, if_false]
      have hdr : List.drop (2 + (pre x).length) (47 :: 47 :: (pre x ++ 10 :: (D (post x) ++ nm))) = 10 :: (D (post x) ++ nm) := by
        rw [Nat.add_comm]
        simp only [List.drop_succ_cons]
        exact List.drop_left
      rw [hdr]
      have hbk : ∀ (i : Nat) (d : List (List UInt8)), bk (10 :: (D (post x) ++ nm)) i d true true = bk (D (post x) ++ nm) (i + 1) d false false := fun i d => rfl
      obtain ⟨a, b, h⟩ := ih (post x) (k + 1) (i + 2 + (pre x).length + 1) (d ++ [pre x ++ [10]]) hlen (Ends.post hl) (by omega)
      refine ⟨a, b, ?_⟩
      rw [scanS] at h ⊢
      rw [hbk, h, List.flatten_append]
      have : (d.flatten ++ [pre x ++ [10]].flatten) ++ post x = d.flatten ++ x := by
        have hx' := pre_post (Ends.has hl)
        simp only [List.flatten_cons, List.flatten_nil, List.append_nil, List.append_assoc] at hx' ⊢
        rw [hx']
      rw [this]
theorem last_get {x : List UInt8} (h : 0 < x.length) : x.getLast? = some (x.getD (x.length - 1) 0) := by
  rw [List.getLast?_eq_getElem?, getD_at (by omega), List.getElem?_eq_getElem (by omega)]
theorem back_plain (x : List UInt8) : glossarylaw05_LexBack x = .ok true := by
  unfold glossarylaw05_LexBack
  rw [awake_ok]
  simp only [R.bind_ok, if_true]
  by_cases hx : x.length ≤ 500
  · rw [if_neg (by omega)]
    have hdl := D_len x.length x (Nat.le_refl _)
    have main : Ends x → ((lex_Doc x).bind fun r36 => if List.length r36 + List.length ([110, 97, 109, 101] : List UInt8) ≤ 1000000000 then ((lex_Scan (r36 ++ ([110, 97, 109, 101]))).bind fun r38 => (if r38.2.2 = 0 then (if (List.length r38.1 : Int) = 2 then (if 0 ≤ 0 ∧ 0 < (List.length r38.1 : Int) then (if ((List.getD r38.1 0 default).Text) = ([110, 97, 109, 101]) then (if 0 ≤ 0 ∧ 0 < (List.length r38.1 : Int) then (if ((List.getD r38.1 0 default).Doc) = x then (if 0 ≤ 1 ∧ 1 < (List.length r38.1 : Int) then (R.ok (decide (((List.getD r38.1 1 default).Doc) = []))) else R.stuck) else (R.ok false)) else R.stuck) else (R.ok false)) else R.stuck) else (R.ok false)) else (R.ok false)).bind fun x2m49 => R.ok x2m49) else R.stuck) = R.ok true := by
      intro he
      rw [doc_ok (by omega)]
      simp only [R.bind_ok]
      rw [if_pos (by simp only [List.length_cons, List.length_nil]; omega)]
      have hnl : (D x ++ nm).length = (D x).length + 4 := by simp [nm]
      have hsc := scan_ok (s := D x ++ nm) (by omega)
      obtain ⟨a, b, h⟩ := back_scan x.length x ((D x ++ nm).length + 1) 0 [] (Nat.le_refl _) he (by
        rw [hnl]
        by_cases h0 : x = []
        · subst h0; simp
        · have : x.length ≤ (D x).length := by
            have key : ∀ (n : Nat) (x : List UInt8), x.length ≤ n → x.length ≤ (D x).length := by
              intro n
              induction n with
              | zero => intro x hx; omega
              | succ n ih =>
                intro x hx
                cases x with
                | nil => simp
                | cons c l =>
                  have h1 := post_lt c l
                  have h2 := ih (post (c :: l)) (by simp only [List.length_cons] at hx; omega)
                  rw [D_ne (by simp)]
                  have h3 : (c :: l).length ≤ (pre (c :: l)).length + (post (c :: l)).length + 1 := by
                    have kk : ∀ x : List UInt8, x.length ≤ (pre x).length + (post x).length + 1 := by
                      intro x
                      induction x with
                      | nil => simp
                      | cons c l ih => unfold pre post; split <;> simp <;> omega
                    exact kk _
                  simp only [List.length_append, List.length_cons, List.length_nil] at h3 ⊢
                  omega
            exact key x.length x (Nat.le_refl _)
          omega)
      unfold scan at hsc
      rw [h] at hsc
      rw [show D x ++ [110, 97, 109, 101] = D x ++ nm from rfl, hsc]
      simp [fin, mkT, nm]
    by_cases h0 : x = []
    · rw [if_pos h0]
      simp only [R.bind_ok, Bool.false_eq_true, if_false]
      exact main (.inl h0)
    · have hp : 0 < x.length := List.length_pos_iff.2 h0
      have ew : IntKind.wrap .i64 ((x.length : Int) - 1) = ((x.length - 1 : Nat) : Int) := by rw [wrap64 (by omega)]; omega
      rw [if_neg h0, ew, if_pos (by omega), Int.toNat_natCast]
      simp only [R.bind_ok]
      by_cases h10 : x.getD (x.length - 1) 0 = 10
      · rw [h10]
        rw [if_neg (by decide)]
        exact main (.inr (by rw [last_get hp, h10]))
      · rw [decide_eq_false (not10 h10)]
        rfl
  · rw [if_pos (by omega)]
    rfl
theorem back_law (x : List UInt8) : CA qprim 6 [.str x] [] fun r _ => r = .ret (.bool true) := by
  refine glossarylaw05_LexBack_call (x0 := x) (KK := fun r => r = true) (X := fun _ => False) (by rw [back_plain]; exact rfl) (fun r hr => by rw [hr]) (fun v hv => hv.elim)
end Go.Proofs.Ytblbbmlppmpmjaa.Pv
