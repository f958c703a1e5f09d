/- Laws 3 and 5: Order is the reference's; Order of its own answer. -/
import Derived.Test.YtmaabgkgjknhpaaLC
import Derived.Test.YtmaabgkgjknhpaaLA
set_option linter.unusedVariables false
set_option linter.unusedSimpArgs false
set_option maxRecDepth 20000
namespace Go.Proofs.Ytmaabgkgjknhpaa.Pv
open Go Go.Proofs

theorem fold_err {f : List Pa → Pa → Option Ans} (hf : ∀ out d q e, f out d = some (.error (q, e)) → e ≠ 0) : ∀ (ds out : List Pa) (q : Pa) (e : Int), foldS f out ds = some (.error (q, e)) → e ≠ 0
  | [], out, q, e, h => by cases h
  | d :: ds, out, q, e, h => by
    unfold foldS at h
    split at h
    · exact fold_err hf ds _ q e h
    · exact hf _ _ _ _ h
theorem come_err (L : List Un) : ∀ (n : Nat) (way out : List Pa) (p q : Pa) (e : Int), comeS L n out way p = some (.error (q, e)) → e ≠ 0
  | 0, way, out, p, q, e, h => by cases h
  | n + 1, way, out, p, q, e, h => by
    unfold comeS at h
    split at h
    · cases h
    · split at h
      · cases h; decide
      · split at h
        · cases h; decide
        · split at h
          · split at h
            · cases h
            · exact fold_err (fun out d q e h => come_err L n _ out d q e h) _ _ q e h
          · cases h; decide
theorem orders_law {L : List Un} {asked : List Pa} : glossarylaw10_GraphOrders L asked = .ok true := by
  unfold glossarylaw10_GraphOrders
  rw [awake_ok]
  simp only [R.bind_ok, if_true]
  rcases few_ok L with h | ⟨h, hL, hD⟩
  · rw [h]; rfl
  rw [h]
  simp only [R.bind_ok, if_true]
  by_cases ha : (30 : Int) < (asked.length : Int)
  · rw [decide_eq_true ha]; rfl
  rw [decide_eq_false ha]
  simp only [Bool.false_eq_true, if_false]
  obtain ⟨a, h⟩ := Option.isSome_iff_exists.1 (order_some L asked)
  have hD' : ∀ u ∈ L, u.Deps.length ≤ 100 := fun u hu => by have := hD u hu; omega
  have hl := ans_len h
  rw [order_prog (by omega) hD' (by omega) h, order_ref (by omega) hD' (by omega) h]
  simp only [R.bind_ok]
  rw [same_ok (by omega)]
  simp
/-- Each a unit behind all that it asks for. -/
inductive Ord (L : List Un) : List Pa → Prop where
  | nil : Ord L []
  | snoc {o : List Pa} {p : Pa} {u : Un} : Ord L o → findU L p = some u → u.Deps.Nodup → (∀ d ∈ u.Deps, d ∈ o) → Ord L (o ++ [p])
theorem fold_ord {L : List Un} {f : List Pa → Pa → Option Ans} {way : List Pa} (hf : ∀ out d out', Good L out way → Ord L out → f out d = some (.ok out') → Ord L out') (hg1 : ∀ out d out', Good L out way → f out d = some (.ok out') → Good L out' way) :
    ∀ (ds out out' : List Pa), Good L out way → Ord L out → foldS f out ds = some (.ok out') → Ord L out'
  | [], out, out', hg, ho, h => by
    simp only [foldS, Option.some.injEq, Except.ok.injEq] at h
    subst h
    exact ho
  | d :: ds, out, out', hg, ho, h => by
    unfold foldS at h
    split at h
    · rename_i o1 h1
      exact fold_ord hf hg1 ds o1 out' (hg1 _ _ _ hg h1) (hf _ _ _ hg ho h1) h
    · rename_i hne
      rw [h] at hne
      exact absurd rfl (hne _)
theorem come_ord (L : List Un) : ∀ (n : Nat) (way out : List Pa) (p : Pa) (out' : List Pa), Good L out way → Ord L out → comeS L n out way p = some (.ok out') → Ord L out'
  | 0, way, out, p, out', hg, ho, h => by cases h
  | n + 1, way, out, p, out', hg, ho, h => by
    unfold comeS at h
    split at h
    · simp only [Option.some.injEq, Except.ok.injEq] at h
      subst h
      exact ho
    · rename_i hp
      split at h
      · cases h
      · rename_i hw
        split at h
        · cases h
        · rename_i u hu
          split at h
          · rename_i hn
            split at h
            · rename_i o1 h1
              simp only [Option.some.injEq, Except.ok.injEq] at h
              subst h
              have g0 := hg.way hp hw (findU_mem hu)
              have m1 := (fold_good (fun out d out' => come_good L n (way ++ [p]) out d out') u.Deps out o1 g0 h1).2.2
              have o1' := fold_ord (way := way ++ [p]) (fun out d out' => come_ord L n (way ++ [p]) out d out') (fun out d out' hg h => (come_good L n (way ++ [p]) out d out' hg h).1) u.Deps out o1 g0 ho h1
              exact .snoc o1' hu hn m1
            · rename_i hne
              rw [h] at hne
              exact absurd rfl (hne _)
          · cases h
theorem fold_append {f : List Pa → Pa → Option Ans} : ∀ (a b out out' : List Pa), foldS f out a = some (.ok out') → foldS f out (a ++ b) = foldS f out' b
  | [], b, out, out', h => by
    simp only [foldS, Option.some.injEq, Except.ok.injEq] at h
    subst h
    rfl
  | d :: a, b, out, out', h => by
    unfold foldS at h
    simp only [List.cons_append]
    rw [foldS]
    split at h
    · rename_i o1 h1
      exact fold_append a b o1 out' h
    · rename_i hne
      rw [h] at hne
      exact absurd rfl (hne _)
theorem fold_there {L : List Un} {n : Nat} {way o : List Pa} : ∀ (ds : List Pa), (∀ d ∈ ds, d ∈ o) → foldS (fun out d => comeS L (n + 1) out way d) o ds = some (.ok o)
  | [], h => rfl
  | d :: ds, h => by
    have : comeS L (n + 1) o way d = some (.ok o) := by
      unfold comeS
      rw [if_pos (h d List.mem_cons_self)]
    rw [foldS, this]
    exact fold_there ds fun x hx => h x (List.mem_cons_of_mem _ hx)
theorem ord_again {L : List Un} : ∀ {o : List Pa}, Ord L o → o.Nodup → orderS L o = some (.ok o) := by
  intro o ho
  induction ho with
  | nil => exact fun _ => rfl
  | @snoc o p u ho hu hn hm ih =>
    intro hd
    rw [List.nodup_append] at hd
    have hp : p ∉ o := fun h => hd.2.2 p h p (by simp) rfl
    unfold orderS at ih ⊢
    rw [fold_append o [p] [] o (ih hd.1)]
    have hL : L ≠ [] := by
      rintro rfl
      cases hu
    obtain ⟨n, hn'⟩ : ∃ n, L.length = n + 1 := ⟨L.length - 1, by have := List.length_pos_iff.2 hL; omega⟩
    have : comeS L (L.length + 1) o [] p = some (.ok (o ++ [p])) := by
      unfold comeS
      rw [if_neg hp, if_neg (by simp), hu]
      simp only []
      rw [if_pos hn, hn', fold_there u.Deps hm]
    rw [foldS, this]
    rfl
theorem order_again {L : List Un} {asked out : List Pa} (h : orderS L asked = some (.ok out)) : orderS L out = some (.ok out) := by
  have hg := (fold_good (f := fun o d => comeS L (L.length + 1) o [] d) (way := []) (fun out d out' => come_good L _ [] out d out') asked [] out (good_nil L) h).1
  refine ord_again (fold_ord (way := []) (fun out d out' => come_ord L _ [] out d out') (fun out d out' hg h => (come_good L _ [] out d out' hg h).1) asked [] out (good_nil L) .nil h) ?_
  have := hg.1
  rwa [List.append_nil] at this
theorem again_law {L : List Un} {asked : List Pa} : glossarylaw10_GraphAgain L asked = .ok true := by
  unfold glossarylaw10_GraphAgain
  rw [awake_ok]
  simp only [R.bind_ok, if_true]
  rcases few_ok L with h | ⟨h, hL, hD⟩
  · rw [h]; rfl
  rw [h]
  simp only [R.bind_ok, if_true]
  by_cases ha : (30 : Int) < (asked.length : Int)
  · rw [decide_eq_true ha]; rfl
  rw [decide_eq_false ha]
  simp only [Bool.false_eq_true, if_false]
  obtain ⟨a, h⟩ := Option.isSome_iff_exists.1 (order_some L asked)
  have hD' : ∀ u ∈ L, u.Deps.length ≤ 100 := fun u hu => by have := hD u hu; omega
  have hl := ans_len h
  rw [order_prog (by omega) hD' (by omega) h]
  simp only [R.bind_ok]
  cases a with
  | ok out =>
    have h2 := order_again h
    show (R.bind (graph_Order L out) _) = _
    have hl' : out.length ≤ L.length := order_len h
    rw [order_prog (by omega) hD' (by omega) h2]
    simp only [R.bind_ok]
    show (R.bind (if (0 : Int) = 0 then (if (0 : Int) = 0 then R.bind (glossaryref10_Same out out) _ else _) else _) _) = _
    rw [if_pos rfl, if_pos rfl, same_ok (by omega)]
    rfl
  | error z =>
    obtain ⟨q, e⟩ := z
    have he : e ≠ 0 := fold_err (fun out d q e h => come_err L _ [] out d q e h) asked [] q e h
    obtain ⟨b, h2⟩ := Option.isSome_iff_exists.1 (order_some L [])
    show (R.bind (graph_Order L []) _) = _
    rw [order_prog (by omega) hD' (by simp) h2]
    simp only [R.bind_ok]
    show (R.bind (if e = 0 then _ else _) _) = _
    rw [if_neg he]
    rfl
theorem graphOrders_law {P Q : Prop} (x0 : List S_api_Unit) (_ : P) (x1 : List (List UInt8)) (_ : Q) : CA qprim 3 [.sl 3 (List.map S_api_Unit.enc x0), .sl 1 (List.map V.str x1)] [] fun r _ => r = .ret (.bool true) :=
  glossarylaw10_GraphOrders_call (KK := fun r => r = true) (X := fun _ => False) (by rw [orders_law]; rfl) (fun r hr => by rw [hr]) (fun _ h => h.elim)
theorem graphAgain_law {P Q : Prop} (x0 : List S_api_Unit) (_ : P) (x1 : List (List UInt8)) (_ : Q) : CA qprim 5 [.sl 3 (List.map S_api_Unit.enc x0), .sl 1 (List.map V.str x1)] [] fun r _ => r = .ret (.bool true) :=
  glossarylaw10_GraphAgain_call (KK := fun r => r = true) (X := fun _ => False) (by rw [again_law]; rfl) (fun r hr => by rw [hr]) (fun _ h => h.elim)
end Go.Proofs.Ytmaabgkgjknhpaa.Pv
