/- Which trees are alike: both compare the same parts in the same order. -/
import Derived.Test.YtnpobhbpbefciaaDoorLB
set_option linter.unusedVariables false
set_option linter.unusedSimpArgs false
set_option maxRecDepth 20000
namespace Go.Proofs.YtnpobhbpbefciaaDoor.Pv
open Go Go.Proofs

theorem same_loop {f g : Nd → Nd → R Bool} {a b : Nd} (hl : a.Kids.length = b.Kids.length) (hx : a.Kids.length < 1000000000) (hf : ∀ p ∈ a.Kids, ∀ q ∈ b.Kids, ∃ r, f p q = .ok r ∧ g p q = .ok r) :
    ∀ (n k k' i : Nat), i + n = a.Kids.length → n < k → n < k' → ∃ s : Unit ⊕ Bool, slices_EqualFunc_apiNode_l1 f a.Kids b.Kids k (i : Int) = .ok s ∧ glossaryref07_same_l1 g a b k' (i : Int) = .ok s := by
  intro n
  induction n with
  | zero =>
    intro k k' i hi hk hk'
    obtain ⟨k, rfl⟩ : ∃ j, k = j + 1 := ⟨k - 1, by omega⟩
    obtain ⟨k', rfl⟩ : ∃ j, k' = j + 1 := ⟨k' - 1, by omega⟩
    rw [slices_EqualFunc_apiNode_l1, glossaryref07_same_l1, if_neg (by omega), if_neg (by omega)]
    exact ⟨.inl (), rfl, rfl⟩
  | succ n ih =>
    intro k k' i hi hk hk'
    obtain ⟨k, rfl⟩ : ∃ j, k = j + 1 := ⟨k - 1, by omega⟩
    obtain ⟨k', rfl⟩ : ∃ j, k' = j + 1 := ⟨k' - 1, by omega⟩
    have hil : i < a.Kids.length := by omega
    have hil' : i < b.Kids.length := by omega
    rw [slices_EqualFunc_apiNode_l1, glossaryref07_same_l1, if_pos (by omega), if_pos (by omega), if_pos (by omega), if_pos (by omega), if_pos (by omega), if_pos (by omega), gt_at hil, gt_at hil']
    obtain ⟨r, h1, h2⟩ := hf _ (List.getElem_mem hil) _ (List.getElem_mem hil')
    rw [h1, h2]
    simp only [R.sure_ok, R.bind_ok]
    cases r with
    | false => exact ⟨.inr false, rfl, rfl⟩
    | true =>
      simp only [if_true]
      rw [nextI (by omega)]
      exact ih k k' (i + 1) (by omega) (by omega) (by omega)
theorem same_both : ∀ (k k' : Nat) (a b : Nd), nodes a ≤ 400 → nodes b ≤ 400 → depth a ≤ k → depth a ≤ k' → ∃ r, node_Same_1_n k a b = .ok r ∧ glossaryref07_same_n k' a b = .ok r
  | 0, _, a, _, _, _, h, _ => by have := depth_pos a; omega
  | _ + 1, 0, a, _, _, _, _, h => by have := depth_pos a; omega
  | k + 1, k' + 1, a, b, ha, hb, hk, hk' => by
    rw [node_Same_1_n, glossaryref07_same_n]
    unfold node_Same_1_b glossaryref07_same_b
    have hka := kids_le a
    by_cases h1 : a.Kind = b.Kind
    · by_cases h2 : a.Text = b.Text
      · by_cases h3 : a.N = b.N
        · by_cases h4 : a.M = b.M
          · by_cases h5 : a.A = b.A
            · by_cases h6 : a.Doc = b.Doc
              · simp only [if_pos h1, if_pos h2, if_pos h3, if_pos h4, if_pos h5, if_pos h6, R.bind_ok, h6, decide_true, Bool.not_true, Bool.false_eq_true, if_false, if_true]
                by_cases h7 : (List.length a.Kids : Int) = (List.length b.Kids : Int)
                · simp only [decide_eq_true h7, Bool.not_true, Bool.false_eq_true, if_false]
                  obtain ⟨r, h8, h9⟩ := same_loop (f := node_Same_1_n k) (g := glossaryref07_same_n k') (a := a) (b := b) (by omega) (by omega) (fun p hp q hq => same_both k k' p q (by have := nodes_kid hp; omega) (by have := nodes_kid hq; omega) (by have := depth_kid hp; omega) (by have := depth_kid hp; omega)) a.Kids.length Many Many 0 (by omega) (by simp only [many_eq]; omega) (by simp only [many_eq]; omega)
                  unfold slices_EqualFunc_apiNode
                  rw [if_pos h7]
                  rw [show ((0 : Int)) = ((0 : Nat) : Int) from rfl, h8, h9]
                  cases r with
                  | inl u => exact ⟨true, rfl, rfl⟩
                  | inr r => exact ⟨r, rfl, rfl⟩
                · unfold slices_EqualFunc_apiNode
                  rw [if_neg h7]
                  simp only [decide_eq_false h7, Bool.not_false, if_true]
                  exact ⟨false, rfl, rfl⟩
              · simp only [if_pos h1, if_pos h2, if_pos h3, if_pos h4, if_pos h5, if_neg h6, R.bind_ok, h6, decide_false, Bool.not_false, if_true]; exact ⟨_, rfl, rfl⟩
            · simp only [if_pos h1, if_pos h2, if_pos h3, if_pos h4, if_neg h5, R.bind_ok, if_true]; exact ⟨_, rfl, rfl⟩
          · simp only [if_pos h1, if_pos h2, if_pos h3, if_neg h4, R.bind_ok, if_true]; exact ⟨_, rfl, rfl⟩
        · simp only [if_pos h1, if_pos h2, if_neg h3, R.bind_ok, if_true]; exact ⟨_, rfl, rfl⟩
      · simp only [if_pos h1, if_neg h2, R.bind_ok, if_true]; exact ⟨_, rfl, rfl⟩
    · simp only [if_neg h1, R.bind_ok, if_true]; exact ⟨_, rfl, rfl⟩
theorem same_ok {a b : Nd} (ha : a.Ok) (hb : b.Ok) (hsa : Small a) (hsb : Small b) : ∃ r, node_Same a b = .ok r ∧ glossaryref07_Same a b = .ok r := by
  unfold node_Same glossaryref07_Same
  rw [deep_ok ha hsa, deep_ok hb hsb, rdeep_ok ha hsa, rdeep_ok hb hsb]
  simp only [R.bind_ok]
  by_cases h1 : (if depth a ≤ 64 then (depth a : Int) else 100) ≤ 64
  · by_cases h2 : (if depth b ≤ 64 then (depth b : Int) else 100) ≤ 64
    · simp only [if_pos h1, if_pos h2]
      unfold node_Same_1 glossaryref07_same
      unfold Small at hsa hsb
      obtain ⟨r, h3, h4⟩ := same_both Many Many a b (by omega) (by omega) (by simp only [many_eq]; omega) (by simp only [many_eq]; omega)
      rw [h3, h4]
      exact ⟨r, rfl, rfl⟩
    · simp only [if_pos h1, if_neg h2, R.bind_ok]; exact ⟨_, rfl, rfl⟩
  · simp only [if_neg h1, R.bind_ok]; exact ⟨_, rfl, rfl⟩
theorem same_law (a b : Nd) (ha : a.Ok) (hb : b.Ok) : glossarylaw07_NodeSame a b = .ok true := by
  unfold glossarylaw07_NodeSame
  rw [awake_ok]
  obtain ⟨u, hu, hsu⟩ := few_ok ha
  obtain ⟨v, hv, hsv⟩ := few_ok hb
  simp only [R.bind_ok, if_true, hu, hv, R.sure_ok]
  cases u with
  | false => rfl
  | true =>
    simp only [if_true]
    cases v with
    | false => rfl
    | true =>
      obtain ⟨r, h1, h2⟩ := same_ok ha hb (hsu rfl) (hsv rfl)
      simp only [if_true, h1, h2, R.sure_ok, R.bind_ok, BEq.rfl]
theorem same_run (x : Nd) (hx : x.Ok) (y : Nd) (hy : y.Ok) : CA qprim 6 [.agg [.int .i64 x.Kind, .str x.Text, .int .i64 x.N, .int .i64 x.M, .int .i64 x.A, .int .i64 x.At, .str x.Doc, .sl 8 (List.map S_api_Node.enc x.Kids)], .agg [.int .i64 y.Kind, .str y.Text, .int .i64 y.N, .int .i64 y.M, .int .i64 y.A, .int .i64 y.At, .str y.Doc, .sl 8 (List.map S_api_Node.enc y.Kids)]] [] fun r _ => r = .ret (.bool true) :=
  glossarylaw07_NodeSame_call (KK := fun b => b = true) (X := fun _ => False) (by rw [same_law x y hx hy]; exact rfl) (fun r h => by rw [h]) (fun v h => h.elim)
end Go.Proofs.YtnpobhbpbefciaaDoor.Pv
