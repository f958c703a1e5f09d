/- The tokens of two sources, a new line between. -/
import Derived.Test.YtblbbmlppmpmjaaG12
import Derived.Test.YtblbbmlppmpmjaaLK
set_option linter.unusedVariables false
set_option linter.unusedSimpArgs false
set_option maxRecDepth 20000
namespace Go.Proofs.Ytblbbmlppmpmjaa.Pv
open Go Go.Proofs

def vw (t : S_api_Token) : Int × List UInt8 × Int := (t.Kind, t.Text, t.N)
def skip : List UInt8 → List UInt8
  | [] => []
  | c :: r => if bl c = true then skip r else c :: r
theorem bk_skip : ∀ (r : List UInt8) (i : Nat) (d : List (List UInt8)) (f m : Bool), (bk r i d f m).1 = skip r
  | [], i, d, f, m => rfl
  | c :: r, i, d, f, m => by
    unfold bk skip
    split
    · split
      · exact bk_skip r _ _ _ _
      · exact bk_skip r _ _ _ _
    · rfl
theorem skip_le : ∀ r : List UInt8, (skip r).length ≤ r.length
  | [] => Nat.le_refl _
  | c :: r => by
    unfold skip
    split
    · have := skip_le r; simp only [List.length_cons]; omega
    · exact Nat.le_refl _
theorem skip_cons (c : UInt8) (r : List UInt8) : skip (c :: r) = if bl c = true then skip r else c :: r := rfl
theorem skip_app (z : List UInt8) : ∀ r : List UInt8, skip (r ++ z) = if skip r = [] then skip z else skip r ++ z
  | [] => by simp [skip]
  | c :: r => by
    simp only [List.cons_append]
    rw [skip_cons, skip_cons]
    split
    · exact skip_app z r
    · rw [if_neg (by simp)]; rfl
/-- What the tokens are, but for places and comments. -/
def scanV : Nat → List UInt8 → Option (List (Int × List UInt8 × Int))
  | 0, _ => none
  | k + 1, r =>
    match skip r with
    | [] => some [(0, [], 0)]
    | c :: t =>
      if [47, 47].isPrefixOf (c :: t) = true then scanV k ((c :: t).drop (2 + (pre ((c :: t).drop 2)).length))
      else if [47, 42].isPrefixOf (c :: t) = true then
        (if (Lib.cut ((c :: t).drop 2) [42, 47]).2.2 = true then scanV k ((c :: t).drop (4 + (Lib.cut ((c :: t).drop 2) [42, 47]).1.length)) else none)
      else match tokS (c :: t) with
        | .inl _ => none
        | .inr q => (scanV k ((c :: t).drop q.2)).map (q.1 :: ·)
def opt : (Int × Int) ⊕ (List S_api_Token) → Option (List (Int × List UInt8 × Int))
  | .inl _ => none
  | .inr ts => some (ts.map vw)
theorem view : ∀ (k : Nat) (r : List UInt8) (i : Nat) (d : List (List UInt8)) (f m : Bool), opt (scanS k r i d f m) = scanV k r := by
  intro k
  induction k with
  | zero => intro r i d f m; rfl
  | succ k ih =>
    intro r i d f m
    have hs := bk_skip r i d f m
    unfold scanS scanV
    generalize bk r i d f m = b at hs ⊢
    obtain ⟨r', i', d', f', m'⟩ := b
    simp only [] at hs
    rw [← hs]
    cases r' with
    | nil => rfl
    | cons c t =>
      simp only []
      split
      · exact ih _ _ _ _ _
      · split
        · split
          · exact ih _ _ _ _ _
          · rfl
        · cases tokS (c :: t) with
          | inl q => rfl
          | inr q =>
            simp only []
            have := ih ((c :: t).drop q.2) (i' + q.2) [] true m'
            rw [← this]
            cases scanS k ((c :: t).drop q.2) (i' + q.2) [] true m' with
            | inl e => rfl
            | inr ts => rfl
theorem scanV_fuel (n : Nat) : ∀ (r : List UInt8) (k k' : Nat), r.length ≤ n → n < k → n < k' → scanV k r = scanV k' r := by
  induction n with
  | zero =>
    intro r k k' hr hk hk'
    obtain rfl := List.eq_nil_of_length_eq_zero (by omega : r.length = 0)
    obtain ⟨k, rfl⟩ : ∃ m, k = m + 1 := ⟨k - 1, by omega⟩
    obtain ⟨k', rfl⟩ : ∃ m, k' = m + 1 := ⟨k' - 1, by omega⟩
    rfl
  | succ n ih =>
    intro r k k' hr hk hk'
    obtain ⟨k, rfl⟩ : ∃ m, k = m + 1 := ⟨k - 1, by omega⟩
    obtain ⟨k', rfl⟩ : ∃ m, k' = m + 1 := ⟨k' - 1, by omega⟩
    have hl := skip_le r
    unfold scanV
    generalize skip r = x at hl ⊢
    cases x with
    | nil => rfl
    | cons c t =>
      simp only [List.length_cons] at hl ⊢
      split
      · exact ih _ _ _ (by simp only [List.length_drop, List.length_cons]; omega) (by omega) (by omega)
      · split
        · split
          · exact ih _ _ _ (by simp only [List.length_drop, List.length_cons]; omega) (by omega) (by omega)
          · rfl
        · cases ht : tokS (c :: t) with
          | inl q => rfl
          | inr q =>
            have := tokS_ok (t := q.1) (n := q.2) ht
            simp only []
            rw [ih ((c :: t).drop q.2) k k' (by simp only [List.length_drop, List.length_cons]; omega) (by omega) (by omega)]
theorem scanV_same {k : Nat} {r r' : List UInt8} (h : skip r = skip r') : scanV k r = scanV k r' := by
  cases k with
  | zero => rfl
  | succ k => rw [scanV, scanV, h]
theorem pre_app (b : List UInt8) : ∀ y : List UInt8, pre (y ++ 10 :: b) = pre y
  | [] => by simp [pre]
  | c :: y => by
    simp only [List.cons_append]
    unfold pre
    split
    · rfl
    · rw [pre_app b y]
theorem two_app {p q c : UInt8} (hq : q ≠ 10) (t b : List UInt8) : [p, q].isPrefixOf (c :: t ++ 10 :: b) = [p, q].isPrefixOf (c :: t) := by
  cases t with
  | nil =>
    have : (q == 10) = false := by simpa using hq
    simp [List.isPrefixOf, this]
  | cons e t => simp [List.isPrefixOf]
theorem index_more (z : List UInt8) : ∀ t : List UInt8, Lib.index t [42, 47] ≠ -1 → Lib.index (t ++ z) [42, 47] = Lib.index t [42, 47]
  | [], h => by simp [Lib.index] at h
  | c :: t, h => by
    simp only [List.cons_append]
    unfold Lib.index at h ⊢
    cases t with
    | nil => simp [Lib.index, List.isPrefixOf] at h
    | cons e t =>
      have hp : ([42, 47] : List UInt8).isPrefixOf (c :: (e :: t ++ z)) = ([42, 47] : List UInt8).isPrefixOf (c :: e :: t) := by simp [List.isPrefixOf]
      rw [hp]
      split
      · rfl
      · rename_i hn
        rw [if_neg hn] at h
        have hi : Lib.index (e :: t) [42, 47] ≠ -1 := by
          intro e'
          rw [e'] at h
          exact h rfl
        rw [index_more z (e :: t) hi]
theorem cut_more (z : List UInt8) {t : List UInt8} (h : (Lib.cut t [42, 47]).2.2 = true) : (Lib.cut (t ++ z) [42, 47]).2.2 = true ∧ (Lib.cut (t ++ z) [42, 47]).1 = (Lib.cut t [42, 47]).1 := by
  have hl := cut_len h
  unfold Lib.cut at h hl ⊢
  split at h
  · rename_i h0
    have hi := index_more z t (by omega)
    rw [if_pos h0] at hl
    simp only [List.length_take] at hl
    rw [hi, if_pos h0, if_pos h0]
    refine ⟨rfl, ?_⟩
    simp only []
    have key : (Lib.index t [42, 47]).toNat ≤ t.length := by
      have : ∀ (t : List UInt8), 0 ≤ Lib.index t [42, 47] → (Lib.index t [42, 47]).toNat ≤ t.length := by
        intro t
        induction t with
        | nil => intro h; simp [Lib.index] at h
        | cons c t ih =>
          intro h
          unfold Lib.index at h ⊢
          split
          · simp
          · rename_i hp
            rw [if_neg hp] at h
            have hge := Lib.index_ge t [42, 47]
            split at h
            · omega
            · rename_i hz
              have hz' : Lib.index t [42, 47] ≠ -1 := by simpa using hz
              have := ih (by omega)
              rw [if_neg hz]
              simp only [List.length_cons]
              omega
      exact this t h0
    exact List.take_append_of_le_length key
  · cases h
theorem wl_app (b : List UInt8) : ∀ r : List UInt8, wl (r ++ 10 :: b) = wl r
  | [] => by
    have : wordB 10 = false := by decide
    simp [wl, this]
  | c :: r => by
    simp only [List.cons_append]
    unfold wl
    rw [wl_app b r]
theorem tokS_more (b : List UInt8) {r : List UInt8} {q : (Int × List UInt8 × Int) × Nat} (h : tokS r = .inr q) : tokS (r ++ 10 :: b) = .inr q := by
  cases r with
  | nil => cases h
  | cons c r =>
    have hw := wl_le r
    simp only [List.cons_append]
    rw [tokS_cons] at h ⊢
    have ht : (c :: (r ++ 10 :: b)).take (wl r + 1) = (c :: r).take (wl r + 1) := by
      have := List.take_append_of_le_length (l₂ := 10 :: b) (show wl r + 1 ≤ (c :: r).length by simp only [List.length_cons]; omega)
      exact this
    rw [wl_app, ht]
    split
    · rename_i h1
      rw [if_pos h1] at h
      exact h
    · rename_i h1
      rw [if_neg h1] at h
      split
      · rename_i h2
        rw [if_pos h2] at h
        split at h
        · rename_i h3
          have := takeS_more (c :: r) (10 :: b) h3
          simp only [List.cons_append] at this
          rw [this, if_pos h3]
          exact h
        · cases h
      · rename_i h2
        rw [if_neg h2] at h
        exact h
theorem scanV_ne : ∀ (k : Nat) (r : List UInt8) (xs : List (Int × List UInt8 × Int)), scanV k r = some xs → xs ≠ []
  | 0, r, xs, h => by cases h
  | k + 1, r, xs, h => by
    unfold scanV at h
    generalize skip r = x at h
    cases x with
    | nil => cases h; simp
    | cons c t =>
      simp only [] at h
      split at h
      · exact scanV_ne k _ _ h
      · split at h
        · split at h
          · exact scanV_ne k _ _ h
          · cases h
        · cases ht : tokS (c :: t) with
          | inl q => rw [ht] at h; cases h
          | inr q =>
            rw [ht] at h
            simp only [Option.map_eq_some_iff] at h
            obtain ⟨ys, _, rfl⟩ := h
            simp
theorem joined (n : Nat) : ∀ (a b : List UInt8) (k1 k2 k : Nat) (xs ys : List (Int × List UInt8 × Int)), a.length ≤ n → n < k1 → b.length < k2 → n + b.length + 1 < k → scanV k1 a = some xs → scanV k2 b = some ys →
    scanV k (a ++ 10 :: b) = some (xs.dropLast ++ ys) := by
  have h10 : bl 10 = true := by decide
  have blank : ∀ (a b : List UInt8) (k1 k2 k : Nat) (xs ys : List (Int × List UInt8 × Int)), skip a = [] → b.length < k2 → b.length < k → scanV (k1 + 1) a = some xs → scanV k2 b = some ys → scanV k (a ++ 10 :: b) = some (xs.dropLast ++ ys) := by
    intro a b k1 k2 k xs ys ha hk2 hk hx hy
    rw [scanV, ha] at hx
    cases hx
    have hsk : skip (a ++ 10 :: b) = skip b := by rw [skip_app, if_pos ha, skip, if_pos h10]
    rw [scanV_same hsk, scanV_fuel b.length b k k2 (Nat.le_refl _) hk hk2, hy]
    rfl
  induction n with
  | zero =>
    intro a b k1 k2 k xs ys ha hk1 hk2 hk hx hy
    obtain rfl := List.eq_nil_of_length_eq_zero (by omega : a.length = 0)
    obtain ⟨k1, rfl⟩ : ∃ m, k1 = m + 1 := ⟨k1 - 1, by omega⟩
    exact blank [] b k1 k2 k xs ys rfl hk2 (by omega) hx hy
  | succ n ih =>
    intro a b k1 k2 k xs ys ha hk1 hk2 hk hx hy
    obtain ⟨k1, rfl⟩ : ∃ m, k1 = m + 1 := ⟨k1 - 1, by omega⟩
    by_cases hs : skip a = []
    · exact blank a b k1 k2 k xs ys hs hk2 (by omega) hx hy
    · obtain ⟨k, rfl⟩ : ∃ m, k = m + 1 := ⟨k - 1, by omega⟩
      have hl := skip_le a
      have hsk : skip (a ++ 10 :: b) = skip a ++ 10 :: b := by rw [skip_app, if_neg hs]
      rw [scanV] at hx ⊢
      rw [hsk]
      generalize skip a = x at hs hl hx ⊢
      cases x with
      | nil => exact absurd rfl hs
      | cons c t =>
        simp only [List.length_cons] at hl
        simp only [List.cons_append] at hx ⊢
        have e1 := two_app (p := 47) (q := 47) (c := c) (by decide) t b
        have e2 := two_app (p := 47) (q := 42) (c := c) (by decide) t b
        simp only [List.cons_append] at e1 e2
        rw [e1, e2]
        split
        · rename_i c1
          rw [if_pos c1] at hx
          obtain ⟨y, hy1⟩ := two_pre c1
          injection hy1 with q1 q2
          subst q1; subst q2
          simp only [List.drop_succ_cons, List.drop_zero, List.cons_append] at hx ⊢
          rw [pre_app]
          have hp := pre_le y
          have hdr : List.drop (2 + (pre y).length) (47 :: 47 :: (y ++ 10 :: b)) = List.drop (2 + (pre y).length) (47 :: 47 :: y) ++ 10 :: b := by
            have := List.drop_append_of_le_length (l₁ := 47 :: 47 :: y) (l₂ := 10 :: b) (i := 2 + (pre y).length) (by simp only [List.length_cons]; omega)
            exact this
          rw [hdr]
          exact ih _ b k1 k2 k xs ys (by simp only [List.length_drop, List.length_cons] at hl ⊢; omega) (by omega) hk2 (by omega) hx hy
        · rename_i c1
          rw [if_neg c1] at hx
          split
          · rename_i c2
            rw [if_pos c2] at hx
            obtain ⟨y, hy1⟩ := two_pre c2
            injection hy1 with q1 q2
            subst q1; subst q2
            simp only [List.drop_succ_cons, List.drop_zero, List.cons_append] at hx ⊢
            split at hx
            · rename_i c3
              obtain ⟨m1, m2⟩ := cut_more (10 :: b) c3
              have hcl := cut_len c3
              simp only [List.length_cons, List.length_nil] at hcl
              rw [if_pos m1, m2]
              have hdr : List.drop (4 + (Lib.cut y [42, 47]).1.length) (47 :: 42 :: (y ++ 10 :: b)) = List.drop (4 + (Lib.cut y [42, 47]).1.length) (47 :: 42 :: y) ++ 10 :: b := by
                have := List.drop_append_of_le_length (l₁ := 47 :: 42 :: y) (l₂ := 10 :: b) (i := 4 + (Lib.cut y [42, 47]).1.length) (by simp only [List.length_cons]; omega)
                exact this
              rw [hdr]
              exact ih _ b k1 k2 k xs ys (by simp only [List.length_drop, List.length_cons] at hl ⊢; omega) (by omega) hk2 (by omega) hx hy
            · cases hx
          · rename_i c2
            rw [if_neg c2] at hx
            cases ht : tokS (c :: t) with
            | inl q => rw [ht] at hx; cases hx
            | inr q =>
              rw [ht] at hx
              have hm := tokS_more b ht
              simp only [List.cons_append] at hm
              obtain ⟨t1, t2, _⟩ := tokS_ok (t := q.1) (n := q.2) ht
              rw [hm]
              simp only [Option.map_eq_some_iff] at hx
              obtain ⟨xs', hx', rfl⟩ := hx
              have hdr : List.drop q.2 (c :: (t ++ 10 :: b)) = List.drop q.2 (c :: t) ++ 10 :: b := by
                have := List.drop_append_of_le_length (l₁ := c :: t) (l₂ := 10 :: b) (i := q.2) t2
                exact this
              simp only []
              have hne := scanV_ne _ _ _ hx'
              rw [hdr, ih _ b k1 k2 k xs' ys (by simp only [List.length_drop, List.length_cons] at hl ⊢; omega) (by omega) hk2 (by omega) hx' hy]
              simp only [Option.map_some, Option.some.injEq]
              rw [List.dropLast_cons_of_ne_nil hne]
              rfl
theorem scan_opt (s : List UInt8) : opt (scan s) = scanV (s.length + 1) s := view _ _ _ _ _ _
theorem scan_err {s : List UInt8} {e : Int × Int} (h : scan s = .inl e) : e.2 ≠ 0 := scanS_err s.length s _ _ _ _ _ e (Nat.le_refl _) (by omega) h
theorem joined_loop {xs ys zs : List S_api_Token} (hx : xs ≠ []) (hz : zs.map vw = (xs.map vw).dropLast ++ ys.map vw) (hl : zs.length ≤ 100000) (hxl : xs.length ≤ 100000) (a b c : List S_api_Token × Int × Int) (ha : a.1 = xs) (hb : b.1 = ys) (hc : c.1 = zs) :
    ∀ (n k j : Nat), j + n = zs.length → n < k → glossarylaw05_LexJoined_l1 a b c k (j : Int) = .ok (.inl ()) := by
  have hp : 0 < xs.length := List.length_pos_iff.2 hx
  have hlen : zs.length = xs.length - 1 + ys.length := by have := congrArg List.length hz; simpa using this
  intro n
  induction n with
  | zero =>
    intro k j hj hk
    obtain ⟨k, rfl⟩ : ∃ m, k = m + 1 := ⟨k - 1, by omega⟩
    rw [glossarylaw05_LexJoined_l1, hc, if_neg (by omega)]
  | succ n ih =>
    intro k j hj hk
    obtain ⟨k, rfl⟩ : ∃ m, k = m + 1 := ⟨k - 1, by omega⟩
    have hlt : j < zs.length := by omega
    have step : ∀ (u v : S_api_Token), vw u = vw v → glossarylaw05_LexJoined_j2 (glossarylaw05_LexJoined_l1 a b c k) (j : Int) u.Kind u.Text u.N u.At u.Doc v.Kind v.Text v.N v.At v.Doc = .ok (.inl ()) := by
      intro u v huv
      unfold vw at huv
      simp only [Prod.mk.injEq] at huv
      obtain ⟨h1, h2, h3⟩ := huv
      unfold glossarylaw05_LexJoined_j2
      rw [if_pos h1, if_pos h2, decide_eq_true h3]
      simp only [R.bind_ok, Bool.not_true, Bool.false_eq_true, if_false]
      rw [next64 (by omega)]
      exact ih k (j + 1) (by omega) (by omega)
    have hg := congrArg (fun l => l[j]?) hz
    simp only [List.getElem?_map, List.getElem?_append, List.length_dropLast, List.length_map] at hg
    rw [List.getElem?_eq_getElem hlt] at hg
    rw [glossarylaw05_LexJoined_l1, hc, if_pos (by omega), if_pos (by omega), gt_at hlt, ha, wrap64 (n := (xs.length : Int) - 1) (by omega)]
    by_cases h1 : j < xs.length - 1
    · rw [if_pos (by omega), if_pos (by omega), gt_at (l := xs) (by omega)]
      rw [if_pos h1, List.getElem?_dropLast, List.length_map, if_pos h1, List.getElem?_map, List.getElem?_eq_getElem (by omega)] at hg
      simp only [Option.map_some, Option.some.injEq] at hg
      exact step _ _ hg
    · have ei : IntKind.wrap .i64 ((IntKind.wrap .i64 ((j : Int) - (xs.length : Int))) + 1) = ((j - (xs.length - 1) : Nat) : Int) := by
        rw [wrap64 (n := (j : Int) - (xs.length : Int)) (by omega), wrap64 (by omega)]; omega
      have hy : j - (xs.length - 1) < ys.length := by omega
      rw [if_neg (by omega), ei, hb, if_pos (by omega), gt_at (l := ys) hy]
      rw [if_neg h1, List.getElem?_eq_getElem hy] at hg
      simp only [Option.map_some, Option.some.injEq] at hg
      exact step _ _ hg
theorem joined_plain (a b : List UInt8) : glossarylaw05_LexJoined a b = .ok true := by
  unfold glossarylaw05_LexJoined
  rw [awake_ok]
  simp only [R.bind_ok, if_true]
  by_cases ha : a.length ≤ 300
  · rw [if_neg (by omega)]
    simp only [R.bind_ok]
    by_cases hb : b.length ≤ 300
    · rw [decide_eq_false (by omega)]
      simp only [Bool.false_eq_true, if_false]
      have hzl : ((a ++ [10]) ++ b).length = a.length + 1 + b.length := by simp; omega
      rw [scan_ok (by omega), scan_ok (s := b) (by omega)]
      simp only [R.bind_ok]
      rw [if_pos (by simp only [List.length_cons, List.length_nil]; omega), if_pos (by simp only [List.length_append, List.length_cons, List.length_nil]; omega), scan_ok (by omega)]
      simp only [R.bind_ok]
      have hoz := scan_opt ((a ++ [10]) ++ b)
      have hoa := scan_opt a
      have hob := scan_opt b
      cases hsa : scan a with
      | inl e =>
        have hz : (fin [] (Sum.inl e)).2.2 ≠ 0 := scan_err hsa
        rw [if_neg hz]
        rfl
      | inr xs =>
        have h0 : (fin [] (Sum.inr xs)).2.2 = 0 := rfl
        rw [if_pos h0]
        simp only [R.bind_ok]
        cases hsb : scan b with
        | inl e =>
          have hz : (fin [] (Sum.inl e)).2.2 ≠ 0 := scan_err hsb
          rw [decide_eq_false hz]
          rfl
        | inr ys =>
          have h0b : (fin [] (Sum.inr ys)).2.2 = 0 := rfl
          rw [decide_eq_true h0b]
          simp only [Bool.not_true, Bool.false_eq_true, if_false]
          rw [hsa] at hoa
          rw [hsb] at hob
          have hj := joined a.length a b (a.length + 1) (b.length + 1) (((a ++ [10]) ++ b).length + 1) (xs.map vw) (ys.map vw) (Nat.le_refl _) (by omega) (by omega) (by omega) hoa.symm hob.symm
          have ez : a ++ 10 :: b = (a ++ [10]) ++ b := by simp
          rw [ez, ← hoz] at hj
          have hxne : xs ≠ [] := by
            intro e
            have := scanV_ne _ _ _ hoa.symm
            rw [e] at this
            exact this rfl
          cases hsz : scan ((a ++ [10]) ++ b) with
          | inl e => rw [hsz] at hj; cases hj
          | inr zs =>
            rw [hsz] at hj
            simp only [opt, Option.some.injEq] at hj
            have h0z : (fin [] (Sum.inr zs)).2.2 = 0 := rfl
            have hp : 0 < xs.length := List.length_pos_iff.2 hxne
            have hzl2 : zs.length = xs.length - 1 + ys.length := by have := congrArg List.length hj; simpa using this
            have hl1 := scanS_len _ _ _ _ _ _ _ hsa
            have hl2 := scanS_len _ _ _ _ _ _ _ hsb
            have hl3 := scanS_len _ _ _ _ _ _ _ hsz
            have hle : (List.length (fin [] (Sum.inr zs)).1 : Int) = IntKind.wrap .i64 (IntKind.wrap .i64 ((List.length (fin [] (Sum.inr xs)).1 : Int) + (List.length (fin [] (Sum.inr ys)).1 : Int)) - 1) := by
              simp only [fin, List.nil_append]
              rw [wrap64 (n := (xs.length : Int) + (ys.length : Int)) (by omega), wrap64 (by omega)]
              omega
            rw [if_pos h0z, decide_eq_true hle]
            simp only [R.bind_ok, Bool.not_true, Bool.false_eq_true, if_false]
            have h := joined_loop hxne hj (by omega) (by omega) (fin [] (Sum.inr xs)) (fin [] (Sum.inr ys)) (fin [] (Sum.inr zs)) rfl rfl rfl zs.length Many 0 (by omega) (many_gt (by omega))
            rw [show ((0 : Nat) : Int) = 0 from rfl] at h
            rw [h]
            rfl
    · rw [decide_eq_true (by omega)]
      rfl
  · rw [if_pos (by omega)]
    rfl
theorem joined_law (a b : List UInt8) : CA qprim 4 [.str a, .str b] [] fun r _ => r = .ret (.bool true) := by
  refine glossarylaw05_LexJoined_call (x0 := a) (x1 := b) (KK := fun r => r = true) (X := fun _ => False) (by rw [joined_plain]; exact rfl) (fun r hr => by rw [hr]) (fun v hv => hv.elim)
end Go.Proofs.Ytblbbmlppmpmjaa.Pv
