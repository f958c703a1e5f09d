/- The kids of a kind, in order: what they are is what is cloned. -/
import Derived.Test.YtnpobhbpbefciaaDoorLA
set_option linter.unusedVariables false
set_option linter.unusedSimpArgs false
set_option maxRecDepth 20000
namespace Go.Proofs.YtnpobhbpbefciaaDoor.Pv
open Go Go.Proofs

/-- What an answer for the depth tells, from a depth on. -/
def DeepP (x : Nd) (at_ r : Int) : Prop := at_ ≤ r ∧ r ≤ at_ + depth x - 1 ∧ (at_ + depth x ≤ 65 → r = at_ + depth x - 1) ∧ (65 < at_ + depth x → 64 < r)
theorem rdeep_loop {f : Nd → Int → R Int} {x : Nd} {a : Int} (ha : 0 ≤ a ∧ a ≤ 64) (hx : x.Kids.length < 1000000000) (hf : ∀ k ∈ x.Kids, ∃ r, f k (a + 1) = .ok r ∧ DeepP k (a + 1) r) :
    ∀ (n k i : Nat) (d : Int), i + n = x.Kids.length → a ≤ d → d ≤ 64 → n < k → (∀ q ∈ x.Kids, depth q ≤ 1000) → ∃ r, (glossaryref07_deep_l1 f x a k d (i : Int) = .ok (.inl r) ∨ glossaryref07_deep_l1 f x a k d (i : Int) = .ok (.inr r)) ∧ d ≤ r ∧ r ≤ max d (a + maxL ((x.Kids.drop i).map depth)) ∧ (a + maxL ((x.Kids.drop i).map depth) ≤ 64 → r = max d (a + maxL ((x.Kids.drop i).map depth))) ∧ (64 < a + maxL ((x.Kids.drop i).map depth) → 64 < r) := by
  intro n
  induction n with
  | zero =>
    intro k i d hi hd hd2 hk hq
    obtain ⟨k, rfl⟩ : ∃ k', k = k' + 1 := ⟨k - 1, by omega⟩
    rw [glossaryref07_deep_l1, if_neg (by omega), List.drop_eq_nil_of_le (by omega)]
    refine ⟨d, .inl rfl, ?_⟩
    simp only [List.map_nil, maxL]
    omega
  | succ n ih =>
    intro k i d hi hd hd2 hk hq
    obtain ⟨k, rfl⟩ : ∃ k', k = k' + 1 := ⟨k - 1, by omega⟩
    have hil : i < x.Kids.length := by omega
    rw [drop_at hil, List.map_cons]
    simp only [maxL]
    rw [glossaryref07_deep_l1, if_pos (by omega), if_pos (by omega), gt_at hil, wrap64 (by omega)]
    obtain ⟨r1, h1, h2⟩ := hf _ (List.getElem_mem hil)
    unfold DeepP at h2
    have h3 := hq _ (List.getElem_mem hil)
    rw [h1]
    simp only [R.sure_ok, R.bind_ok]
    have hm : (if d < r1 then r1 else d) = max d r1 := by split <;> omega
    rw [hm]
    by_cases h64 : (64 : Int) < max d r1
    · rw [if_pos h64]
      exact ⟨_, .inr rfl, by omega⟩
    · rw [if_neg h64, nextI (by omega)]
      obtain ⟨r, h6, h7⟩ := ih k (i + 1) (max d r1) (by omega) (by omega) (by omega) (by omega) hq
      exact ⟨r, h6, by omega⟩
theorem rdeep1_ok : ∀ (k : Nat) (x : Nd) (a : Int), x.Ok → nodes x ≤ 400 → 0 ≤ a → a + depth x ≤ 1000 → depth x ≤ k → ∃ r, glossaryref07_deep_n k x a = .ok r ∧ DeepP x a r
  | 0, x, a, _, _, _, _, h => by have := depth_pos x; omega
  | k + 1, x, a, ho, hn, ha, hd, hk => by
    have hall := ho.all
    rw [glossaryref07_deep_n]
    unfold glossaryref07_deep_b
    have hkl := kids_le x
    have he := depth_eq x
    have hp := depth_pos x
    by_cases h64 : (64 : Int) < a
    · rw [if_pos h64]
      exact ⟨a, rfl, by unfold DeepP; omega⟩
    · rw [if_neg h64]
      obtain ⟨r, h1, h2⟩ := rdeep_loop (f := glossaryref07_deep_n k) (x := x) (a := a) (by omega) (by omega) (fun q hq => rdeep1_ok k q (a + 1) (hall.2.2.2.2.2.2.2.2 q hq) (by have := nodes_kid hq; omega) (by omega) (by have := depth_kid hq; omega) (by have := depth_kid hq; omega)) x.Kids.length Many 0 a (by omega) (by omega) (by omega) (by simp only [many_eq]; omega) (fun q hq => by have := depth_kid hq; omega)
      simp only [List.drop_zero] at h2
      have hP : DeepP x a r := by unfold DeepP; omega
      rcases h1 with h1 | h1
      · rw [show ((0 : Int)) = ((0 : Nat) : Int) from rfl, h1]; exact ⟨r, rfl, hP⟩
      · rw [show ((0 : Int)) = ((0 : Nat) : Int) from rfl, h1]; exact ⟨r, rfl, hP⟩
theorem rdeep_ok {x : Nd} (ho : x.Ok) (hs : nodes x ≤ 400 ∧ depth x ≤ 81) : glossaryref07_Deep x = .ok (if depth x ≤ 64 then (depth x : Int) else 100) := by
  unfold glossaryref07_Deep glossaryref07_deep
  obtain ⟨r, h1, h2⟩ := rdeep1_ok Many x 1 ho (by omega) (by omega) (by omega) (by simp only [many_eq]; omega)
  unfold DeepP at h2
  rw [h1]
  simp only [R.sure_ok, R.bind_ok]
  by_cases h : depth x ≤ 64
  · rw [if_neg (by omega), if_pos h]; congr 1; omega
  · rw [if_pos (by omega), if_neg h]

theorem kids_of_one {x : Nd} (h : depth x ≤ 1) : x.Kids = [] := by
  cases hk : x.Kids with
  | nil => rfl
  | cons k r =>
    have h1 := depth_kid (x := x) (k := k) (by rw [hk]; simp)
    have h2 := depth_pos k
    omega
theorem clone_loop {f : Nd → Int → R Nd} {x : Nd} {a : Int} (ha : 0 ≤ a ∧ a < 64) (hx : x.Kids.length ≤ 1000) (hf : ∀ k ∈ x.Kids, f k (a + 1) = .ok k) :
    ∀ (n k i : Nat) (out : List Nd), i + n = x.Kids.length → n < k → out.length ≤ i → node_Clone_1_l1 f x a k (i : Int) out = .ok (out ++ x.Kids.drop i) := by
  intro n
  induction n with
  | zero =>
    intro k i out hi hk ho
    obtain ⟨k, rfl⟩ : ∃ m, k = m + 1 := ⟨k - 1, by omega⟩
    rw [node_Clone_1_l1, if_neg (by omega), List.drop_eq_nil_of_le (by omega), List.append_nil]
  | succ n ih =>
    intro k i out hi hk ho
    obtain ⟨k, rfl⟩ : ∃ m, k = m + 1 := ⟨k - 1, by omega⟩
    have hil : i < x.Kids.length := by omega
    rw [node_Clone_1_l1, if_pos (by omega), if_pos (by omega), if_pos (by omega), gt_at hil, wrap64 (n := a + 1) (by omega), hf _ (List.getElem_mem hil)]
    simp only [R.sure_ok, R.bind_ok]
    rw [if_pos (by simp only [List.length_cons, List.length_nil]; omega), nextI (by omega), ih k (i + 1) _ (by omega) (by omega) (by simp only [List.length_append, List.length_cons, List.length_nil]; omega), drop_at hil]
    simp
theorem clone1_ok : ∀ (k : Nat) (x : Nd) (a : Int), 1 ≤ a → a + depth x ≤ 65 → nodes x ≤ 400 → depth x ≤ k → node_Clone_1_n k x a = .ok x
  | 0, x, a, _, _, _, h => by have := depth_pos x; omega
  | k + 1, x, a, h1, h2, h3, h4 => by
    have hp := depth_pos x
    have hkl := kids_le x
    rw [node_Clone_1_n]
    unfold node_Clone_1_b
    by_cases h0 : x.Kids = []
    · obtain ⟨m, hm⟩ := many_succ
      rw [hm, node_Clone_1_l1, h0, if_neg (by simp)]
      simp only [R.bind_ok, node_Clone_1_j0]
      rw [← h0]
      cases x; rfl
    · have h5 : 1 < depth x := by
        rcases Nat.lt_or_ge 1 (depth x) with h | h
        · exact h
        · exact absurd (kids_of_one h) h0
      have hl := clone_loop (f := node_Clone_1_n k) (x := x) (a := a) (by omega) (by omega) (fun q hq => clone1_ok k q (a + 1) (by omega) (by have := depth_kid hq; omega) (by have := nodes_kid hq; omega) (by have := depth_kid hq; omega)) x.Kids.length Many 0 [] (by omega) (by simp only [many_eq]; omega) (by simp)
      rw [show ((0 : Int)) = ((0 : Nat) : Int) from rfl, hl]
      simp only [R.bind_ok, node_Clone_1_j0, List.drop_zero, List.nil_append]
      cases x; rfl
theorem clone_ok {x : Nd} (h2 : depth x ≤ 64) (h3 : nodes x ≤ 400) : node_Clone x = .ok x := by
  unfold node_Clone node_Clone_1
  rw [clone1_ok Many x 1 (by omega) (by omega) h3 (by simp only [many_eq]; omega)]
  rfl
/-- The kids of a kind. -/
def ofK (kind : Int) (l : List Nd) : List Nd := l.filter fun k => decide (k.Kind = kind)
theorem of_loop {x : Nd} {kind : Int} (hd : depth x ≤ 64) (hn : nodes x ≤ 400) : ∀ (n k i : Nat) (out : List Nd), i + n = x.Kids.length → n < k → out.length ≤ i → node_Of_v1_l1 x kind k out (i : Int) = .ok (out ++ ofK kind (x.Kids.drop i)) := by
  have hkl := kids_le x
  intro n
  induction n with
  | zero =>
    intro k i out hi hk ho
    obtain ⟨k, rfl⟩ : ∃ m, k = m + 1 := ⟨k - 1, by omega⟩
    rw [node_Of_v1_l1, if_neg (by omega), List.drop_eq_nil_of_le (by omega)]
    simp [ofK]
  | succ n ih =>
    intro k i out hi hk ho
    obtain ⟨k, rfl⟩ : ∃ m, k = m + 1 := ⟨k - 1, by omega⟩
    have hil : i < x.Kids.length := by omega
    have hm := List.getElem_mem hil
    rw [node_Of_v1_l1, if_pos (by omega), if_pos (by omega), gt_at hil, drop_at hil]
    unfold ofK
    rw [List.filter_cons]
    by_cases h : x.Kids[i].Kind = kind
    · rw [if_pos h, clone_ok (by have := depth_kid hm; omega) (by have := nodes_kid hm; omega)]
      simp only [R.bind_ok]
      rw [if_pos (by simp only [List.length_cons, List.length_nil]; omega), nextI (by omega), ih k (i + 1) _ (by omega) (by omega) (by simp only [List.length_append, List.length_cons, List.length_nil]; omega), if_pos (decide_eq_true h)]
      simp [ofK]
    · rw [if_neg h, nextI (by omega), ih k (i + 1) out (by omega) (by omega) (by omega), if_neg (by simp only [decide_eq_true_eq]; exact h)]
      rfl
theorem of_ok {x : Nd} (kind : Int) (hd : depth x ≤ 64) (hn : nodes x ≤ 400) : node_Of_v1 x kind = .ok (ofK kind x.Kids) := by
  have hkl := kids_le x
  unfold node_Of_v1
  rw [show ((0 : Int)) = ((0 : Nat) : Int) from rfl, of_loop hd hn x.Kids.length Many 0 [] (by omega) (by simp only [many_eq]; omega) (by simp)]
  rfl
theorem rsame_loop {g : Nd → Nd → R Bool} {a : Nd} (hx : a.Kids.length < 1000000000) (hf : ∀ p ∈ a.Kids, g p p = .ok true) : ∀ (n k i : Nat), i + n = a.Kids.length → n < k → glossaryref07_same_l1 g a a k (i : Int) = .ok (.inl ()) := by
  intro n
  induction n with
  | zero =>
    intro k i hi hk
    obtain ⟨k, rfl⟩ : ∃ j, k = j + 1 := ⟨k - 1, by omega⟩
    rw [glossaryref07_same_l1, if_neg (by omega)]
  | succ n ih =>
    intro k i hi hk
    obtain ⟨k, rfl⟩ : ∃ j, k = j + 1 := ⟨k - 1, by omega⟩
    have hil : i < a.Kids.length := by omega
    rw [glossaryref07_same_l1, if_pos (by omega), if_pos (by omega), if_pos (by omega), gt_at hil, hf _ (List.getElem_mem hil)]
    simp only [R.sure_ok, R.bind_ok, if_true]
    rw [nextI (by omega)]
    exact ih k (i + 1) (by omega) (by omega)
theorem rsame1 : ∀ (k : Nat) (a : Nd), nodes a ≤ 400 → depth a ≤ k → glossaryref07_same_n k a a = .ok true
  | 0, a, _, h => by have := depth_pos a; omega
  | k + 1, a, h1, h2 => by
    have hka := kids_le a
    rw [glossaryref07_same_n]
    unfold glossaryref07_same_b
    simp only [if_true, decide_true, Bool.not_true, R.bind_ok, Bool.false_eq_true, if_false]
    rw [show ((0 : Int)) = ((0 : Nat) : Int) from rfl, rsame_loop (g := glossaryref07_same_n k) (a := a) (by omega) (fun p hp => rsame1 k p (by have := nodes_kid hp; omega) (by have := depth_kid hp; omega)) a.Kids.length Many 0 (by omega) (by simp only [many_eq]; omega)]
    rfl
theorem rsame_self {a : Nd} (ho : a.Ok) (hs : nodes a ≤ 400 ∧ depth a ≤ 81) (hd : depth a ≤ 64) : glossaryref07_Same a a = .ok true := by
  unfold glossaryref07_Same
  rw [rdeep_ok ho hs, if_pos hd]
  simp only [R.bind_ok]
  unfold glossaryref07_same
  have := hs.1
  rw [if_pos (by omega), if_pos (by omega), rsame1 Many a (by omega) (by simp only [many_eq]; omega)]
  rfl
theorem ofK_at {kind : Int} (l : List Nd) {i : Nat} (hi : i < l.length) (h : l[i].Kind = kind) : ∃ hc : (ofK kind (l.take i)).length < (ofK kind l).length, (ofK kind l)[(ofK kind (l.take i)).length] = l[i] := by
  have e : ofK kind l = ofK kind (l.take i) ++ l[i] :: ofK kind (l.drop (i + 1)) := by
    have h1 : l = l.take i ++ l[i] :: l.drop (i + 1) := by rw [← List.drop_eq_getElem_cons hi, List.take_append_drop]
    have h2 : ofK kind (l.take i ++ l[i] :: l.drop (i + 1)) = ofK kind (l.take i) ++ l[i] :: ofK kind (l.drop (i + 1)) := by
      unfold ofK
      rw [List.filter_append, List.filter_cons, if_pos (decide_eq_true h)]
    rw [← h2, ← h1]
  have hg : (ofK kind l)[(ofK kind (l.take i)).length]? = some l[i] := by
    rw [e, List.getElem?_append_right (Nat.le_refl _)]
    simp
  obtain ⟨hc, he⟩ := List.getElem?_eq_some_iff.1 hg
  exact ⟨hc, he⟩
theorem ofK_step {kind : Int} (l : List Nd) {i : Nat} (hi : i < l.length) : (ofK kind (l.take (i + 1))).length = (ofK kind (l.take i)).length + (if l[i].Kind = kind then 1 else 0) := by
  rw [List.take_add_one, List.getElem?_eq_getElem hi]
  unfold ofK
  rw [List.filter_append]
  by_cases h : l[i].Kind = kind
  · rw [if_pos h]; simp [h]
  · rw [if_neg h]; simp [h]
theorem law_loop {x : Nd} (ho : x.Ok) (hs : nodes x ≤ 400) (hd : depth x ≤ 64) {kind : Int} : ∀ (n k i : Nat), i + n = x.Kids.length → n < k →
    glossarylaw07_NodeOf_l1 (ofK kind x.Kids) x kind k ((ofK kind (x.Kids.take i)).length : Int) (i : Int) = .ok (.inl ((ofK kind x.Kids).length : Int)) := by
  have hkl := kids_le x
  have hfl : (ofK kind x.Kids).length ≤ x.Kids.length := List.length_filter_le _ _
  intro n
  induction n with
  | zero =>
    intro k i hi hk
    obtain ⟨k, rfl⟩ : ∃ j, k = j + 1 := ⟨k - 1, by omega⟩
    rw [glossarylaw07_NodeOf_l1, if_neg (by omega), List.take_of_length_le (by omega)]
  | succ n ih =>
    intro k i hi hk
    obtain ⟨k, rfl⟩ : ∃ j, k = j + 1 := ⟨k - 1, by omega⟩
    have hil : i < x.Kids.length := by omega
    have hm := List.getElem_mem hil
    have hst := ofK_step (kind := kind) x.Kids hil
    have hi2 := ih k (i + 1) (by omega) (by omega)
    rw [glossarylaw07_NodeOf_l1, if_pos (by omega), if_pos (by omega), gt_at hil]
    by_cases h : x.Kids[i].Kind = kind
    · obtain ⟨hc, he⟩ := ofK_at x.Kids hil h
      rw [if_pos h] at hst
      rw [if_pos h, if_neg (by omega), if_pos (by omega), gt_at hc, he, rsame_self (ho.all.2.2.2.2.2.2.2.2 _ hm) (by have := depth_kid hm; have := nodes_kid hm; omega) (by have := depth_kid hm; omega)]
      simp only [R.sure_ok, R.bind_ok, if_true]
      rw [if_pos (by omega)]
      simp only [decide_true, Bool.not_true, R.bind_ok, Bool.false_eq_true, if_false]
      rw [nextI (by omega), nextI (by omega), ← hst]
      exact hi2
    · rw [if_neg h] at hst
      rw [if_neg h, nextI (by omega), ← Nat.add_zero (ofK kind (x.Kids.take i)).length, ← hst]
      exact hi2
theorem of_law (x : Nd) (ho : x.Ok) (kind : Int) : glossarylaw07_NodeOf x kind = .ok true := by
  unfold glossarylaw07_NodeOf
  rw [awake_ok]
  obtain ⟨b, hb, hsb⟩ := few_ok ho
  simp only [R.bind_ok, if_true, hb, R.sure_ok]
  cases b with
  | false => rfl
  | true =>
    obtain ⟨h1, h2, _⟩ := hsb rfl
    simp only [if_true, rdeep_ok ho ⟨h1, h2⟩, R.sure_ok, R.bind_ok]
    by_cases hd : depth x ≤ 64
    · rw [if_pos hd, decide_eq_false (by omega)]
      simp only [Bool.false_eq_true, if_false]
      rw [of_ok kind hd h1]
      simp only [R.bind_ok]
      have hkl := kids_le x
      have hl := law_loop ho h1 hd (kind := kind) x.Kids.length Many 0 (by omega) (by simp only [many_eq]; omega)
      simp only [List.take_zero] at hl
      have e : (ofK kind ([] : List Nd)).length = 0 := rfl
      rw [e, show ((0 : Nat) : Int) = 0 from rfl] at hl
      rw [hl]
      simp only [R.bind_ok, glossarylaw07_NodeOf_j0, decide_true]
    · rw [if_neg hd]
      rfl
theorem of_run (x : Nd) (ho : x.Ok) (kind : Int) (w : (Lit.int .i64 kind).wf = true) : CA qprim 4 [.agg [.int .i64 x.Kind, .str x.Text, .int .i64 x.N, .int .i64 x.M, .int .i64 x.A, .int .i64 x.At, .str x.Doc, .sl 8 (List.map S_api_Node.enc x.Kids)], .int .i64 kind] [] fun r _ => r = .ret (.bool true) :=
  glossarylaw07_NodeOf_call (KK := fun b => b = true) (X := fun _ => False) (by rw [of_law x ho kind]; exact rfl) (fun r h => by rw [h]) (fun v h => h.elim)
end Go.Proofs.YtnpobhbpbefciaaDoor.Pv
