/- The tree's own measures; what a small tree is. -/
import Derived.Test.YtiigffdmjdooeaaGreatDoorLU
import Derived.Test.YtiigffdmjdooeaaGreatDoorPwX
import Derived.Test.YtiigffdmjdooeaaGreatDoorOS
import Derived.KernelRfl
set_option linter.unusedVariables false
set_option linter.unusedSimpArgs false
set_option maxRecDepth 20000
namespace Go.Proofs.YtiigffdmjdooeaaGreatDoor.Pv
open Go Go.Proofs
abbrev Nd := S_api_Node

def sumL : List Nat → Nat
  | [] => 0
  | x :: r => x + sumL r
def maxL : List Nat → Nat
  | [] => 0
  | x :: r => max x (maxL r)
/-- How many nodes; how deep. -/
def nodes (x : Nd) : Nat := 1 + sumL (List.map nodes x.Kids)
termination_by SizeOf.sizeOf x
decreasing_by cases x; rename_i hm_; simp at hm_ ⊢; have := List.sizeOf_lt_of_mem hm_; omega
def depth (x : Nd) : Nat := 1 + maxL (List.map depth x.Kids)
termination_by SizeOf.sizeOf x
decreasing_by cases x; rename_i hm_; simp at hm_ ⊢; have := List.sizeOf_lt_of_mem hm_; omega
theorem nodes_eq (x : Nd) : nodes x = 1 + sumL (x.Kids.map nodes) := by rw [nodes]
theorem depth_eq (x : Nd) : depth x = 1 + maxL (x.Kids.map depth) := by rw [depth]
theorem le_maxL {l : List Nat} {n : Nat} (h : n ∈ l) : n ≤ maxL l := by
  induction l with
  | nil => cases h
  | cons y r ih =>
    simp only [maxL]
    rcases List.mem_cons.1 h with rfl | h
    · omega
    · have := ih h; omega
theorem le_sumL {l : List Nat} {n : Nat} (h : n ∈ l) : n ≤ sumL l := by
  induction l with
  | nil => cases h
  | cons y r ih =>
    simp only [sumL]
    rcases List.mem_cons.1 h with rfl | h
    · omega
    · have := ih h; omega
theorem depth_kid {x k : Nd} (h : k ∈ x.Kids) : depth k < depth x := by
  rw [depth_eq x]
  have := le_maxL (List.mem_map.2 ⟨k, h, rfl⟩ : depth k ∈ x.Kids.map depth)
  omega
theorem nodes_kid {x k : Nd} (h : k ∈ x.Kids) : nodes k < nodes x := by
  rw [nodes_eq x]
  have := le_sumL (List.mem_map.2 ⟨k, h, rfl⟩ : nodes k ∈ x.Kids.map nodes)
  omega
theorem nodes_pos (x : Nd) : 1 ≤ nodes x := by rw [nodes_eq]; omega
theorem depth_pos (x : Nd) : 1 ≤ depth x := by rw [depth_eq]; omega
theorem length_le_sumL {l : List Nat} (h : ∀ n ∈ l, 1 ≤ n) : l.length ≤ sumL l := by
  induction l with
  | nil => simp [sumL]
  | cons y r ih =>
    have := h y (by simp); have := ih fun n hn => h n (by simp [hn])
    simp only [sumL, List.length_cons]; omega
theorem kids_le (x : Nd) : x.Kids.length < nodes x := by
  rw [nodes_eq]
  have := length_le_sumL (l := x.Kids.map nodes) (by intro n hn; obtain ⟨k, _, rfl⟩ := List.mem_map.1 hn; exact nodes_pos k)
  simp at this; omega

/-- What the guard's count tells, from so many and a depth on. -/
def SizeP (x : Nd) (a d r : Int) : Prop := a + 1 ≤ r ∧ r ≤ 1000 ∧ (r ≤ 400 → r = a + nodes x ∧ d + depth x ≤ 81 ∧ x.Text.length ≤ 2000 ∧ x.Doc.length ≤ 2000)
theorem nextI {i : Nat} (h : i < 9223372036854775807) : IntKind.wrap .i64 ((i : Int) + 1) = ((i + 1 : Nat) : Int) := by rw [wrap64 (by omega)]; omega
theorem size_loop {f : Nd → Int → Int → R Int} {x : Nd} {d : Int} (hd : 0 ≤ d ∧ d ≤ 80) (hx : x.Kids.length ≤ 9223372036854775807) (hf : ∀ k ∈ x.Kids, ∀ a, 0 ≤ a → a ≤ 400 → ∃ r, f k a (d + 1) = .ok r ∧ SizeP k a (d + 1) r) :
    ∀ (n k i : Nat) (a : Int), i + n = x.Kids.length → 0 ≤ a → a ≤ 1000 → 402 ≤ a + k → 0 < k → ∃ r : Int, (∃ s, glossarylaw07_size_l1 f x d k a (i : Int) = .ok s ∧ (s = .inl r ∨ s = .inr r)) ∧ a ≤ r ∧ r ≤ 1000 ∧ (r ≤ 400 → r = a + sumL ((x.Kids.drop i).map nodes) ∧ d + 1 + maxL ((x.Kids.drop i).map depth) ≤ 81) := by
  intro n
  induction n with
  | zero =>
    intro k i a hi ha ha2 hk hk0
    obtain ⟨k, rfl⟩ : ∃ k', k = k' + 1 := ⟨k - 1, by omega⟩
    rw [glossarylaw07_size_l1, if_neg (by omega)]
    refine ⟨a, ⟨_, rfl, .inl rfl⟩, by omega, ha2, fun _ => ?_⟩
    rw [List.drop_eq_nil_of_le (by omega)]
    simp [sumL, maxL]
    omega
  | succ n ih =>
    intro k i a hi ha ha2 hk hk0
    obtain ⟨k, rfl⟩ : ∃ k', k = k' + 1 := ⟨k - 1, by omega⟩
    have hil : i < x.Kids.length := by omega
    rw [glossarylaw07_size_l1, if_pos (by omega), if_pos (by omega), gt_at hil]
    by_cases h4 : (400 : Int) < a
    · rw [if_pos h4]
      exact ⟨a, ⟨_, rfl, .inr rfl⟩, by omega, ha2, fun h => by omega⟩
    · rw [if_neg h4, wrap64 (by omega)]
      obtain ⟨r1, h1, h2, h3, h5⟩ := hf x.Kids[i] (List.getElem_mem hil) a ha (by omega)
      obtain ⟨r, ⟨s, hs, hsr⟩, h6, h7, h8⟩ := ih k (i + 1) r1 (by omega) (by omega) (by omega) (by omega) (by omega)
      rw [h1]
      simp only [R.bind_ok]
      rw [nextI (by omega)]
      refine ⟨r, ⟨s, hs, hsr⟩, by omega, h7, fun h => ?_⟩
      obtain ⟨h9, h10⟩ := h8 h
      obtain ⟨h11, h12, _⟩ := h5 (by omega)
      rw [drop_at hil, List.map_cons, List.map_cons]
      simp only [sumL, maxL]
      omega
theorem size_ok : ∀ (k : Nat) (x : Nd) (a d : Int), x.Ok → 0 ≤ a → a ≤ 400 → 0 ≤ d → d ≤ 81 → 82 ≤ d + k → ∃ r, glossarylaw07_size_n k x a d = .ok r ∧ SizeP x a d r
  | 0, x, a, d, _, _, _, _, _, h => by omega
  | k + 1, x, a, d, ho, ha, ha2, hd, hd2, hk => by
    have hall := ho.all
    rw [glossarylaw07_size_n]
    unfold glossarylaw07_size_b
    by_cases h1 : (80 : Int) < d
    · rw [if_pos h1]
      simp only [R.bind_ok, if_true]
      exact ⟨1000, rfl, by unfold SizeP; omega⟩
    · rw [if_neg h1]
      by_cases h2 : (2000 : Int) < (List.length x.Text : Int)
      · rw [if_pos h2]
        simp only [R.bind_ok, if_true]
        exact ⟨1000, rfl, by unfold SizeP; omega⟩
      · rw [if_neg h2]
        by_cases h3 : (2000 : Int) < (List.length x.Doc : Int)
        · simp only [R.bind_ok, h3, decide_true, if_true]
          exact ⟨1000, rfl, by unfold SizeP; omega⟩
        · simp only [R.bind_ok, h3, decide_false, Bool.false_eq_true, if_false]
          rw [wrap64 (by omega)]
          have hkl : x.Kids.length ≤ 9223372036854775807 := hall.2.2.2.2.2.2.2.1
          obtain ⟨r, ⟨s, hs, hsr⟩, h6, h7, h8⟩ := size_loop (f := glossarylaw07_size_n k) (x := x) (d := d) (by omega) hkl (fun q hq b hb hb2 => size_ok k q b (d + 1) (hall.2.2.2.2.2.2.2.2 q hq) hb hb2 (by omega) (by omega) (by omega)) x.Kids.length Many 0 (a + 1) (by omega) (by omega) (by omega) (by simp only [many_eq]; omega) (by simp only [many_eq]; omega)
          have hP : SizeP x a d r := by
            unfold SizeP
            refine ⟨by omega, h7, fun h => ?_⟩
            obtain ⟨h9, h10⟩ := h8 h
            rw [nodes_eq, depth_eq]
            simp only [List.drop_zero] at h9 h10
            omega
          have hs' : glossarylaw07_size_l1 (glossarylaw07_size_n k) x d Many (a + 1) 0 = .ok s := hs
          rw [hs']
          rcases hsr with rfl | rfl
          · exact ⟨r, rfl, hP⟩
          · exact ⟨r, rfl, hP⟩
/-- What a small tree is. -/
def Small (x : Nd) : Prop := nodes x ≤ 400 ∧ depth x ≤ 81 ∧ x.Text.length ≤ 2000 ∧ x.Doc.length ≤ 2000
theorem few_ok {x : Nd} (ho : x.Ok) : ∃ b, glossarylaw07_Few x = .ok b ∧ (b = true → Small x) := by
  obtain ⟨r, h1, h2, h3, h4⟩ := size_ok Many x 0 0 ho (by omega) (by omega) (by omega) (by omega) (by simp only [many_eq]; omega)
  unfold glossarylaw07_Few glossarylaw07_size
  rw [h1]
  refine ⟨_, rfl, fun h => ?_⟩
  have h5 : r ≤ 400 := of_decide_eq_true h
  have := h4 h5
  unfold Small
  omega
end Go.Proofs.YtiigffdmjdooeaaGreatDoor.Pv
