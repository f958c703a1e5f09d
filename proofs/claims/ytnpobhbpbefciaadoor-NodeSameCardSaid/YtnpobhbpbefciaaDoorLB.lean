/- How many nodes, how deep: both count alike, of small trees. -/
import Derived.Test.YtnpobhbpbefciaaDoorLA
set_option linter.unusedVariables false
set_option linter.unusedSimpArgs false
set_option maxRecDepth 20000
namespace Go.Proofs.YtnpobhbpbefciaaDoor.Pv
open Go Go.Proofs

theorem count1_loop {f : Int → Nd → R Int} {x : Nd} (hx : x.Kids.length ≤ 9223372036854775807) (hf : ∀ k ∈ x.Kids, ∀ a : Int, 0 ≤ a → a + nodes k ≤ 20000 → f a k = .ok (a + nodes k)) :
    ∀ (n k i : Nat) (a : Int), i + n = x.Kids.length → 0 ≤ a → a + sumL ((x.Kids.drop i).map nodes) ≤ 20000 → n < k → node_Count_1_l0 f x k (i : Int) a = .ok (.inl (a + sumL ((x.Kids.drop i).map nodes))) := by
  intro n
  induction n with
  | zero =>
    intro k i a hi ha hs hk
    obtain ⟨k, rfl⟩ : ∃ k', k = k' + 1 := ⟨k - 1, by omega⟩
    rw [node_Count_1_l0, if_neg (by omega), List.drop_eq_nil_of_le (by omega)]
    simp [sumL]
  | succ n ih =>
    intro k i a hi ha hs hk
    obtain ⟨k, rfl⟩ : ∃ k', k = k' + 1 := ⟨k - 1, by omega⟩
    have hil : i < x.Kids.length := by omega
    rw [drop_at hil, List.map_cons] at hs ⊢
    simp only [sumL] at hs ⊢
    rw [node_Count_1_l0, if_pos (by omega), if_pos (by omega), gt_at hil, hf _ (List.getElem_mem hil) a ha (by omega)]
    simp only [R.sure_ok, R.bind_ok]
    rw [if_neg (by omega), nextI (by omega), ih k (i + 1) _ (by omega) (by omega) (by omega) (by omega)]
    congr 2; omega
theorem count1_ok : ∀ (k : Nat) (x : Nd) (a : Int), x.Ok → 0 ≤ a → a + nodes x ≤ 20000 → depth x ≤ k → node_Count_1_n k a x = .ok (a + nodes x)
  | 0, x, a, _, _, _, h => by have := depth_pos x; omega
  | k + 1, x, a, ho, ha, hs, hk => by
    have hall := ho.all
    have hp := nodes_pos x
    rw [node_Count_1_n]
    unfold node_Count_1_b
    rw [wrap64 (by omega), if_neg (by omega)]
    have hn := nodes_eq x
    have hkl := kids_le x
    have := count1_loop (f := node_Count_1_n k) (x := x) hall.2.2.2.2.2.2.2.1 (fun q hq b hb hs => count1_ok k q b (hall.2.2.2.2.2.2.2.2 q hq) hb hs (by have := depth_kid hq; omega)) x.Kids.length Many 0 (a + 1) (by omega) (by omega) (by rw [List.drop_zero]; omega) (by simp only [many_eq]; omega)
    simp only [List.drop_zero] at this
    rw [show ((0 : Int)) = ((0 : Nat) : Int) from rfl, this]
    simp only [R.bind_ok]
    congr 1; omega
theorem count_ok {x : Nd} (ho : x.Ok) (hs : Small x) : node_Count x = .ok (nodes x : Int) := by
  unfold node_Count node_Count_1
  unfold Small at hs
  rw [count1_ok Many x 0 ho (by omega) (by omega) (by simp only [many_eq]; omega)]
  simp only [R.sure_ok, R.bind_ok]
  rw [if_neg (by omega)]
  congr 1; omega
theorem rcount_loop {f : Nd → Int → R Int} {x : Nd} (hx : x.Kids.length ≤ 9223372036854775807) (hf : ∀ k ∈ x.Kids, ∀ a : Int, 0 ≤ a → a + nodes k ≤ 20000 → f k a = .ok (a + nodes k)) :
    ∀ (n k i : Nat) (a : Int), i + n = x.Kids.length → 0 ≤ a → a + sumL ((x.Kids.drop i).map nodes) ≤ 20000 → n < k → glossaryref07_count_l1 f x k a (i : Int) = .ok (.inl (a + sumL ((x.Kids.drop i).map nodes))) := by
  intro n
  induction n with
  | zero =>
    intro k i a hi ha hs hk
    obtain ⟨k, rfl⟩ : ∃ k', k = k' + 1 := ⟨k - 1, by omega⟩
    rw [glossaryref07_count_l1, if_neg (by omega), List.drop_eq_nil_of_le (by omega)]
    simp [sumL]
  | succ n ih =>
    intro k i a hi ha hs hk
    obtain ⟨k, rfl⟩ : ∃ k', k = k' + 1 := ⟨k - 1, by omega⟩
    have hil : i < x.Kids.length := by omega
    rw [drop_at hil, List.map_cons] at hs ⊢
    simp only [sumL] at hs ⊢
    rw [glossaryref07_count_l1, if_pos (by omega), if_pos (by omega), gt_at hil, hf _ (List.getElem_mem hil) a ha (by omega)]
    simp only [R.sure_ok, R.bind_ok]
    rw [if_neg (by omega), nextI (by omega), ih k (i + 1) _ (by omega) (by omega) (by omega) (by omega)]
    congr 2; omega
theorem rcount1_ok : ∀ (k : Nat) (x : Nd) (a : Int), x.Ok → 0 ≤ a → a + nodes x ≤ 20000 → depth x ≤ k → glossaryref07_count_n k x a = .ok (a + nodes x)
  | 0, x, a, _, _, _, h => by have := depth_pos x; omega
  | k + 1, x, a, ho, ha, hs, hk => by
    have hall := ho.all
    have hp := nodes_pos x
    rw [glossaryref07_count_n]
    unfold glossaryref07_count_b
    rw [wrap64 (by omega), if_neg (by omega)]
    have hn := nodes_eq x
    have hkl := kids_le x
    have := rcount_loop (f := glossaryref07_count_n k) (x := x) hall.2.2.2.2.2.2.2.1 (fun q hq b hb hs => rcount1_ok k q b (hall.2.2.2.2.2.2.2.2 q hq) hb hs (by have := depth_kid hq; omega)) x.Kids.length Many 0 (a + 1) (by omega) (by omega) (by rw [List.drop_zero]; omega) (by simp only [many_eq]; omega)
    simp only [List.drop_zero] at this
    rw [show ((0 : Int)) = ((0 : Nat) : Int) from rfl, this]
    simp only [R.bind_ok, glossaryref07_count_j0]
    congr 1; omega
theorem rcount_ok {x : Nd} (ho : x.Ok) (hs : Small x) : glossaryref07_Count x = .ok (nodes x : Int) := by
  unfold glossaryref07_Count glossaryref07_count
  unfold Small at hs
  rw [rcount1_ok Many x 0 ho (by omega) (by omega) (by simp only [many_eq]; omega)]
  simp only [R.bind_ok]
  rw [if_neg (by omega)]
  congr 1; omega

/-- What an answer for the depth tells, from a depth on. -/
def DeepP (x : Nd) (at_ r : Int) : Prop := at_ ≤ r ∧ r ≤ at_ + depth x - 1 ∧ (at_ + depth x ≤ 65 → r = at_ + depth x - 1) ∧ (65 < at_ + depth x → 64 < r)
theorem deep1_loop {f : Nd → Int → R Int} {x : Nd} {a : Int} (ha : 0 ≤ a ∧ a ≤ 1000) (hx : x.Kids.length < 1000000000) (hf : ∀ k ∈ x.Kids, ∃ r, f k (a + 1) = .ok r ∧ DeepP k (a + 1) r) :
    ∀ (n k i : Nat) (d : Int), i + n = x.Kids.length → a ≤ d → d ≤ 10000 → n < k → (∀ q ∈ x.Kids, depth q ≤ 1000) → ∃ r, node_Deep_1_l1 f x a k d (i : Int) = .ok r ∧ d ≤ r ∧ r ≤ max d (a + maxL ((x.Kids.drop i).map depth)) ∧ (d ≤ 64 → a + maxL ((x.Kids.drop i).map depth) ≤ 64 → r = max d (a + maxL ((x.Kids.drop i).map depth))) ∧ (64 < max d (a + maxL ((x.Kids.drop i).map depth)) → 64 < r) := by
  intro n
  induction n with
  | zero =>
    intro k i d hi hd hd2 hk hq
    obtain ⟨k, rfl⟩ : ∃ k', k = k' + 1 := ⟨k - 1, by omega⟩
    rw [node_Deep_1_l1, if_neg (by omega), List.drop_eq_nil_of_le (by omega)]
    refine ⟨d, rfl, ?_⟩
    simp only [List.map_nil, maxL]
    omega
  | succ n ih =>
    intro k i d hi hd hd2 hk hq
    obtain ⟨k, rfl⟩ : ∃ k', k = k' + 1 := ⟨k - 1, by omega⟩
    have hil : i < x.Kids.length := by omega
    rw [drop_at hil, List.map_cons]
    simp only [maxL]
    rw [node_Deep_1_l1, if_pos (by omega), if_pos (by omega), gt_at hil]
    by_cases h64 : (64 : Int) < d
    · rw [if_pos h64]
      exact ⟨d, rfl, by omega⟩
    · rw [if_neg h64, wrap64 (by omega)]
      obtain ⟨r1, h1, h2⟩ := hf _ (List.getElem_mem hil)
      unfold DeepP at h2
      have h3 := hq _ (List.getElem_mem hil)
      rw [h1]
      simp only [R.sure_ok, R.bind_ok]
      rw [nextI (by omega)]
      by_cases h5 : d < r1
      · rw [if_pos h5]
        obtain ⟨r, h6, h7⟩ := ih k (i + 1) r1 (by omega) (by omega) (by omega) (by omega) hq
        exact ⟨r, h6, by omega⟩
      · rw [if_neg h5]
        obtain ⟨r, h6, h7⟩ := ih k (i + 1) d (by omega) (by omega) (by omega) (by omega) hq
        exact ⟨r, h6, by omega⟩
theorem deep1_ok : ∀ (k : Nat) (x : Nd) (a : Int), x.Ok → nodes x ≤ 400 → 0 ≤ a → a + depth x ≤ 1000 → depth x ≤ k → ∃ r, node_Deep_1_n k x a = .ok r ∧ DeepP x a r
  | 0, x, a, _, _, _, _, h => by have := depth_pos x; omega
  | k + 1, x, a, ho, hn, ha, hd, hk => by
    have hall := ho.all
    rw [node_Deep_1_n]
    unfold node_Deep_1_b
    have hkl := kids_le x
    have he := depth_eq x
    obtain ⟨r, h1, h2⟩ := deep1_loop (f := node_Deep_1_n k) (x := x) (a := a) (by omega) (by omega) (fun q hq => deep1_ok k q (a + 1) (hall.2.2.2.2.2.2.2.2 q hq) (by have := nodes_kid hq; omega) (by omega) (by have := depth_kid hq; omega) (by have := depth_kid hq; omega)) x.Kids.length Many 0 a (by omega) (by omega) (by omega) (by simp only [many_eq]; omega) (fun q hq => by have := depth_kid hq; omega)
    simp only [List.drop_zero] at h2
    rw [show ((0 : Int)) = ((0 : Nat) : Int) from rfl, h1]
    refine ⟨r, rfl, ?_⟩
    unfold DeepP
    omega
theorem deep_ok {x : Nd} (ho : x.Ok) (hs : Small x) : node_Deep x = .ok (if depth x ≤ 64 then (depth x : Int) else 100) := by
  unfold node_Deep node_Deep_1
  unfold Small at hs
  obtain ⟨r, h1, h2⟩ := deep1_ok Many x 1 ho (by omega) (by omega) (by omega) (by simp only [many_eq]; omega)
  unfold DeepP at h2
  rw [h1]
  simp only [R.sure_ok, R.bind_ok]
  by_cases h : depth x ≤ 64
  · rw [if_pos (by omega), if_pos h]; congr 1; omega
  · rw [if_neg (by omega), if_neg h]
theorem rdeep_loop {f : Nd → Int → R Int} {x : Nd} {a : Int} (ha : 0 ≤ a ∧ a ≤ 64) (hx : x.Kids.length < 1000000000) (hf : ∀ k ∈ x.Kids, ∃ r, f k (a + 1) = .ok r ∧ DeepP k (a + 1) r) :
    ∀ (n k i : Nat) (d : Int), i + n = x.Kids.length → a ≤ d → d ≤ 64 → n < k → (∀ q ∈ x.Kids, depth q ≤ 1000) → ∃ r, (glossaryref07_deep_l1 f x a k d (i : Int) = .ok (.inl r) ∨ glossaryref07_deep_l1 f x a k d (i : Int) = .ok (.inr r)) ∧ d ≤ r ∧ r ≤ max d (a + maxL ((x.Kids.drop i).map depth)) ∧ (a + maxL ((x.Kids.drop i).map depth) ≤ 64 → r = max d (a + maxL ((x.Kids.drop i).map depth))) ∧ (64 < a + maxL ((x.Kids.drop i).map depth) → 64 < r) := by
  intro n
  induction n with
  | zero =>
    intro k i d hi hd hd2 hk hq
    obtain ⟨k, rfl⟩ : ∃ k', k = k' + 1 := ⟨k - 1, by omega⟩
    rw [glossaryref07_deep_l1, if_neg (by omega), List.drop_eq_nil_of_le (by omega)]
    refine ⟨d, .inl rfl, ?_⟩
    simp only [List.map_nil, maxL]
    omega
  | succ n ih =>
    intro k i d hi hd hd2 hk hq
    obtain ⟨k, rfl⟩ : ∃ k', k = k' + 1 := ⟨k - 1, by omega⟩
    have hil : i < x.Kids.length := by omega
    rw [drop_at hil, List.map_cons]
    simp only [maxL]
    rw [glossaryref07_deep_l1, if_pos (by omega), if_pos (by omega), gt_at hil, wrap64 (by omega)]
    obtain ⟨r1, h1, h2⟩ := hf _ (List.getElem_mem hil)
    unfold DeepP at h2
    have h3 := hq _ (List.getElem_mem hil)
    rw [h1]
    simp only [R.sure_ok, R.bind_ok]
    have hm : (if d < r1 then r1 else d) = max d r1 := by split <;> omega
    rw [hm]
    by_cases h64 : (64 : Int) < max d r1
    · rw [if_pos h64]
      exact ⟨_, .inr rfl, by omega⟩
    · rw [if_neg h64, nextI (by omega)]
      obtain ⟨r, h6, h7⟩ := ih k (i + 1) (max d r1) (by omega) (by omega) (by omega) (by omega) hq
      exact ⟨r, h6, by omega⟩
theorem rdeep1_ok : ∀ (k : Nat) (x : Nd) (a : Int), x.Ok → nodes x ≤ 400 → 0 ≤ a → a + depth x ≤ 1000 → depth x ≤ k → ∃ r, glossaryref07_deep_n k x a = .ok r ∧ DeepP x a r
  | 0, x, a, _, _, _, _, h => by have := depth_pos x; omega
  | k + 1, x, a, ho, hn, ha, hd, hk => by
    have hall := ho.all
    rw [glossaryref07_deep_n]
    unfold glossaryref07_deep_b
    have hkl := kids_le x
    have he := depth_eq x
    have hp := depth_pos x
    by_cases h64 : (64 : Int) < a
    · rw [if_pos h64]
      exact ⟨a, rfl, by unfold DeepP; omega⟩
    · rw [if_neg h64]
      obtain ⟨r, h1, h2⟩ := rdeep_loop (f := glossaryref07_deep_n k) (x := x) (a := a) (by omega) (by omega) (fun q hq => rdeep1_ok k q (a + 1) (hall.2.2.2.2.2.2.2.2 q hq) (by have := nodes_kid hq; omega) (by omega) (by have := depth_kid hq; omega) (by have := depth_kid hq; omega)) x.Kids.length Many 0 a (by omega) (by omega) (by omega) (by simp only [many_eq]; omega) (fun q hq => by have := depth_kid hq; omega)
      simp only [List.drop_zero] at h2
      have hP : DeepP x a r := by unfold DeepP; omega
      rcases h1 with h1 | h1
      · rw [show ((0 : Int)) = ((0 : Nat) : Int) from rfl, h1]; exact ⟨r, rfl, hP⟩
      · rw [show ((0 : Int)) = ((0 : Nat) : Int) from rfl, h1]; exact ⟨r, rfl, hP⟩
theorem rdeep_ok {x : Nd} (ho : x.Ok) (hs : Small x) : glossaryref07_Deep x = .ok (if depth x ≤ 64 then (depth x : Int) else 100) := by
  unfold glossaryref07_Deep glossaryref07_deep
  unfold Small at hs
  obtain ⟨r, h1, h2⟩ := rdeep1_ok Many x 1 ho (by omega) (by omega) (by omega) (by simp only [many_eq]; omega)
  unfold DeepP at h2
  rw [h1]
  simp only [R.sure_ok, R.bind_ok]
  by_cases h : depth x ≤ 64
  · rw [if_neg (by omega), if_pos h]; congr 1; omega
  · rw [if_pos (by omega), if_neg h]
theorem counts_law (x : Nd) (ho : x.Ok) : glossarylaw07_NodeCounts x = .ok true := by
  unfold glossarylaw07_NodeCounts
  rw [awake_ok]
  obtain ⟨b, hb, hs⟩ := few_ok ho
  simp only [R.bind_ok, if_true, hb, R.sure_ok]
  cases b with
  | false => rfl
  | true =>
    have hs := hs rfl
    simp only [if_true, count_ok ho hs, rcount_ok ho hs, deep_ok ho hs, rdeep_ok ho hs, R.sure_ok, R.bind_ok, decide_true]
theorem counts_run (x : Nd) (ho : x.Ok) : CA qprim 3 [.agg [.int .i64 x.Kind, .str x.Text, .int .i64 x.N, .int .i64 x.M, .int .i64 x.A, .int .i64 x.At, .str x.Doc, .sl 8 (List.map S_api_Node.enc x.Kids)]] [] fun r _ => r = .ret (.bool true) :=
  glossarylaw07_NodeCounts_call (KK := fun b => b = true) (X := fun _ => False) (by rw [counts_law x ho]; exact rfl) (fun r h => by rw [h]) (fun v h => h.elim)
end Go.Proofs.YtnpobhbpbefciaaDoor.Pv
