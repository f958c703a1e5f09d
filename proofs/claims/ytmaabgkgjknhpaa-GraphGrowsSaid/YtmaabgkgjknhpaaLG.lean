/- A file comes to all that it sees: law 8. -/
import Derived.Test.YtmaabgkgjknhpaaLV
import Derived.Test.YtmaabgkgjknhpaaG11
set_option linter.unusedVariables false
set_option linter.unusedSimpArgs false
set_option maxRecDepth 20000
namespace Go.Proofs.Ytmaabgkgjknhpaa.Pv
open Go Go.Proofs

theorem vis_in {L : List Un} {a b : Nat} {src Z Z1 : List Pa} (h : bfs (stV L) a src [] = some Z) (h' : bfs (stC L) b src [] = some Z1) : ∀ x ∈ Z, x ∈ Z1 := by
  obtain ⟨_, _, h3, h4, h5⟩ := bfs_spec a src [] Z h List.nodup_nil (fun _ h => by cases h)
  obtain ⟨_, _, k3, k4, k5⟩ := bfs_spec b src [] Z1 h' List.nodup_nil (fun _ h => by cases h)
  refine h5 (fun x => x ∈ Z1) k3 (fun _ h => by cases h) fun p hp x hx => k4 p hp x ?_
  unfold stV at hx
  unfold stC
  split at hx
  · rename_i u hu; rw [hu]; exact visF_mem hx
  · cases hx
theorem grows_loop {x y : List Pa} (hx : x.length ≤ 100000) (hy : y.length ≤ 100000) (h : ∀ p ∈ x, p ∈ y) : ∀ (d k i : Nat), i + d = x.length → d < k → glossarylaw10_GraphGrows_l1 x y k (i : Int) = .ok (.inl ())
  | 0, k, i, hi, hk => by
    obtain ⟨k, rfl⟩ : ∃ m, k = m + 1 := ⟨k - 1, by omega⟩
    rw [glossarylaw10_GraphGrows_l1, if_neg (by omega)]
  | d + 1, k, i, hi, hk => by
    obtain ⟨k, rfl⟩ : ∃ m, k = m + 1 := ⟨k - 1, by omega⟩
    have hlt : i < x.length := by omega
    rw [glossarylaw10_GraphGrows_l1, if_pos (by omega), if_pos (by omega), gt_at hlt, in_ok _ hy]
    simp only [R.bind_ok]
    rw [decide_eq_true (h _ (List.getElem_mem hlt)), if_pos rfl, next64 (by omega), grows_loop hx hy h d k (i + 1) (by omega) (by omega)]
theorem grows_law {L : List Un} {p : Pa} : glossarylaw10_GraphGrows L p = .ok true := by
  unfold glossarylaw10_GraphGrows
  rw [awake_ok]
  simp only [R.bind_ok, if_true]
  rcases few_ok L with hf | ⟨hf, hL, hDP⟩
  · rw [hf]; rfl
  rw [hf]
  simp only [R.bind_ok, if_true]
  have hD : ∀ u ∈ L, u.Deps.length ≤ 30 := fun u hu => (hDP u hu).1
  have hP : ∀ u ∈ L, u.Public.length ≤ 30 := fun u hu => (hDP u hu).2
  unfold graph_Visible graph_Closure
  rcases vreach_ok (p := p) hL hD hP with ⟨h1, h2⟩ | ⟨u, Z, r, h1, h2, h3, h4, h5, h6⟩
  · rcases creach_ok (p := p) hL hD hP with ⟨_, k2⟩ | ⟨u', Z', r', k1, _⟩
    · rw [h2, k2]
      simp only [R.bind_ok]
      obtain ⟨k, hk⟩ := many_succ
      rw [hk, glossarylaw10_GraphGrows_l1, if_neg (by decide)]
      rfl
    · rw [h1] at k1; cases k1
  · rcases creach_ok (p := p) hL hD hP with ⟨k1, _⟩ | ⟨u', Z', r', k1, k2, k3, k4, k5, k6⟩
    · rw [h1] at k1; cases k1
    rw [h1] at k1
    obtain rfl := Option.some.inj k1
    rw [h3, k3]
    simp only [R.bind_ok]
    have hlo := grows_loop (x := r) (y := r') (by omega) (by omega) (fun q hq => by
      rcases (h6 q).1 hq with rfl | hq
      · exact (k6 _).2 (.inl rfl)
      · exact (k6 q).2 (.inr (vis_in h2 k2 q hq))) r.length Many 0 (by omega) (many_gt (by omega))
    rw [show ((0 : Nat) : Int) = 0 from rfl] at hlo
    rw [hlo]
    simp only [R.bind_ok]
    unfold glossarylaw10_GraphGrows_j0
    have n1 : ¬ (r.length : Int) = 0 := by
      have := List.length_pos_of_mem ((h6 p).2 (.inl rfl)); omega
    have n2 : ¬ (r'.length : Int) = 0 := by
      have := List.length_pos_of_mem ((k6 p).2 (.inl rfl)); omega
    rw [decide_eq_false n1, decide_eq_false n2, if_pos (show (false == false) = true from rfl), if_neg n1, in_ok _ (by omega), decide_eq_true ((h6 p).2 (.inl rfl))]
    rfl
theorem graphGrows_law {P : Prop} (x0 : List S_api_Unit) (_ : P) (x1 : List UInt8) (_ : x1.length ≤ maxLen) : CA qprim 8 [.sl 3 (List.map S_api_Unit.enc x0), .str x1] [] fun r _ => r = .ret (.bool true) :=
  glossarylaw10_GraphGrows_call (KK := fun r => r = true) (X := fun _ => False) (by rw [grows_law]; exact rfl) (fun r h => by rw [h]) (fun v h => h.elim)
end Go.Proofs.Ytmaabgkgjknhpaa.Pv
