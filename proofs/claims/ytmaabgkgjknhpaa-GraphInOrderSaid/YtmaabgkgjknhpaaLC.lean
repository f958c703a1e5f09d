/- The program's walk, and Order on both sides. -/
import Derived.Test.YtmaabgkgjknhpaaLB
set_option linter.unusedVariables false
set_option linter.unusedSimpArgs false
set_option maxRecDepth 20000
namespace Go.Proofs.Ytmaabgkgjknhpaa.Pv
open Go Go.Proofs

theorem take_next {α : Type} {x : List α} {i : Nat} (h : i < x.length) : x.take (i + 1) = x.take i ++ [x[i]] := by
  rw [List.take_add_one, List.getElem?_eq_getElem h]; rfl
theorem findU_snoc (L : List Un) (u : Un) (p : Pa) : findU (L ++ [u]) p = (findU L p).or (if u.Path = p then some u else none) := by
  unfold findU
  rw [List.find?_append]
  congr 1
  by_cases h : u.Path = p
  · rw [if_pos h, List.find?_cons_of_pos (by simpa using h)]
  · rw [if_neg h, List.find?_cons_of_neg (by simpa using h)]; rfl
theorem units_loop {L : List Un} (hL : L.length ≤ 100000) : ∀ (d k i : Nat) (m : List (Pa × Un)), i + d = L.length → d < k → (∀ p, mget p m = findU (L.take i) p) → ∃ m', graph_units_l1 L k (i : Int) m = .ok m' ∧ ∀ p, mget p m' = findU L p
  | 0, k, i, m, hi, hk, hm => by
    obtain ⟨k, rfl⟩ : ∃ m, k = m + 1 := ⟨k - 1, by omega⟩
    refine ⟨m, by rw [graph_units_l1, if_neg (by omega)], fun p => ?_⟩
    rw [hm p, List.take_of_length_le (by omega)]
  | d + 1, k, i, m, hi, hk, hm => by
    obtain ⟨k, rfl⟩ : ∃ m, k = m + 1 := ⟨k - 1, by omega⟩
    have hlt : i < L.length := by omega
    rw [graph_units_l1, if_pos (by omega), if_pos (by omega), gt_at hlt, next64 (by omega)]
    by_cases h : (mget L[i].Path m).isSome = true
    · rw [if_pos h]
      refine units_loop hL d k (i + 1) m (by omega) (by omega) fun p => ?_
      rw [take_next hlt, findU_snoc, hm p]
      by_cases e : L[i].Path = p
      · rw [← e, ← hm]
        obtain ⟨u, hu⟩ := Option.isSome_iff_exists.1 h
        rw [hu]; rfl
      · rw [if_neg e, Option.or_none]
    · rw [if_neg h]
      refine units_loop hL d k (i + 1) _ (by omega) (by omega) fun p => ?_
      rw [take_next hlt, findU_snoc, mget_mset, hm p]
      by_cases e : L[i].Path = p
      · rw [if_pos e, if_pos e, ← e, ← hm]
        cases hc : mget L[i].Path m with
        | none => rfl
        | some u => rw [hc] at h; exact absurd rfl h
      · rw [if_neg e, if_neg e, Option.or_none]
theorem units_ok {L : List Un} (hL : L.length ≤ 100000) : ∃ U, graph_units L = .ok U ∧ ∀ p, mget p U = findU L p := by
  obtain ⟨U, h1, h2⟩ := units_loop hL L.length Many 0 [] (by omega) (many_gt (by omega)) (fun p => rfl)
  rw [show ((0 : Nat) : Int) = 0 from rfl] at h1
  exact ⟨U, by unfold graph_units; rw [h1]; rfl, h2⟩
theorem twice_loop {x : List Pa} (hx : x.length ≤ 100000) : ∀ (d k i : Nat) (m : List (Pa × Int)), i + d = x.length → d < k → (∀ p, (mget p m).getD 0 = if p ∈ x.take i then 1 else 0) →
    (dupFrom x i → graph_twice_l1 x k (i : Int) m = .ok (.inr true)) ∧ (¬ dupFrom x i → ∃ m', graph_twice_l1 x k (i : Int) m = .ok (.inl m'))
  | 0, k, i, m, hi, hk, hm => by
    obtain ⟨k, rfl⟩ : ∃ m, k = m + 1 := ⟨k - 1, by omega⟩
    exact ⟨fun ⟨j, h1, h2, _⟩ => by omega, fun _ => ⟨m, by rw [graph_twice_l1, if_neg (by omega)]⟩⟩
  | d + 1, k, i, m, hi, hk, hm => by
    obtain ⟨k, rfl⟩ : ∃ m, k = m + 1 := ⟨k - 1, by omega⟩
    have hlt : i < x.length := by omega
    rw [dup_step hlt]
    rw [graph_twice_l1, if_pos (by omega), if_pos (by omega), gt_at hlt, next64 (by omega), mget_mset, if_pos rfl, hm x[i]]
    by_cases h : x[i] ∈ x.take i
    · rw [if_pos h, if_pos (by decide)]
      exact ⟨fun _ => rfl, fun h' => absurd (.inl h) h'⟩
    · rw [if_neg h, if_neg (by decide)]
      have ih := twice_loop hx d k (i + 1) (mset x[i] (IntKind.wrap .i64 (0 + 1)) m) (by omega) (by omega) fun p => by
        rw [mget_mset, take_next hlt]
        by_cases e : x[i] = p
        · rw [if_pos e, if_pos (List.mem_append_right _ (by rw [e]; exact List.mem_singleton_self _))]; rfl
        · rw [if_neg e, hm p]
          have : (p ∈ x.take i ++ [x[i]]) ↔ p ∈ x.take i := by
            rw [List.mem_append, List.mem_singleton]
            exact ⟨fun h => h.resolve_right fun h => e h.symm, .inl⟩
          simp only [this]
      exact ⟨fun h' => ih.1 (h'.resolve_left h), fun h' => ih.2 fun h2 => h' (.inr h2)⟩
theorem twice_ok {x : List Pa} (hx : x.length ≤ 100000) : graph_twice x = .ok (!decide x.Nodup) := by
  have h := twice_loop hx x.length Many 0 [] (by omega) (many_gt (by omega)) (fun p => rfl)
  rw [show ((0 : Nat) : Int) = 0 from rfl] at h
  unfold graph_twice
  by_cases hn : x.Nodup
  · obtain ⟨m', h1⟩ := h.2 ((dup_nodup x).2 hn)
    rw [h1, decide_eq_true hn]; rfl
  · rw [h.1 (by
      by_cases hd : dupFrom x 0
      · exact hd
      · exact absurd ((dup_nodup x).1 hd) hn), decide_eq_false hn]; rfl
/-- The marks tell what is out and what is on the way. -/
def Rel (m : List (Pa × Int)) (out way : List Pa) : Prop := ∀ q, (mget q m).getD 0 = if q ∈ out then 2 else if q ∈ way then 1 else 0
def wr (q : Pa) (e : Int) : V := .iface 44 (.agg [.str q, .int .i64 e])
def ProgP (way : List Pa) (a : Ans) (r : R ((List (Pa × Int)) × List Pa)) : Prop :=
  match a with
  | .ok out' => ∃ m', r = .ok (m', out') ∧ Rel m' out' way
  | .error (q, e) => r = .pan (wr q e)
theorem Rel.on {m : List (Pa × Int)} {out way : List Pa} {p : Pa} (h : Rel m out way) (hp : p ∉ out) (hw : p ∉ way) : Rel (mset p 1 m) out (way ++ [p]) := fun q => by
  rw [mget_mset]
  by_cases e : p = q
  · subst e
    rw [if_pos rfl, if_neg hp, if_pos (by simp)]; rfl
  · rw [if_neg e, h q]
    have : (q ∈ way ++ [p]) ↔ q ∈ way := by
      rw [List.mem_append, List.mem_singleton]
      exact ⟨fun h => h.resolve_right fun h => e h.symm, .inl⟩
    simp only [this]
theorem Rel.off {m : List (Pa × Int)} {out way : List Pa} {p : Pa} (h : Rel m out (way ++ [p])) : Rel (mset p 2 m) (out ++ [p]) way := fun q => by
  rw [mget_mset]
  by_cases e : p = q
  · subst e
    rw [if_pos rfl, if_pos (by simp)]; rfl
  · rw [if_neg e, h q]
    have h1 : (q ∈ way ++ [p]) ↔ q ∈ way := by
      rw [List.mem_append, List.mem_singleton]
      exact ⟨fun h => h.resolve_right fun h => e h.symm, .inl⟩
    have h2 : (q ∈ out ++ [p]) ↔ q ∈ out := by
      rw [List.mem_append, List.mem_singleton]
      exact ⟨fun h => h.resolve_right fun h => e h.symm, .inl⟩
    simp only [h1, h2]
theorem prog_fold {U : List (Pa × Un)} {x0 : Pa} {x way : List Pa} {L : List Un} (hx : (Option.getD (mget x0 U) (S_api_Unit.mk [] [] [])).Deps = x) (hl : x.length ≤ 1000) {f : List Pa → Pa → Option Ans} {self : List (Pa × Un) → List (Pa × Int) → List Pa → Pa → R ((List (Pa × Int)) × List Pa)}
    (hf : ∀ m out d a, Good L out way → Rel m out way → f out d = some a → ProgP way a (self U m out d)) (hg1 : ∀ out d out', Good L out way → f out d = some (.ok out') → Good L out' way) :
    ∀ (ds : List Pa) (k i : Nat) (m : List (Pa × Int)) (out : List Pa) (a : Ans), x.drop i = ds → i ≤ x.length → ds.length < k → Good L out way → Rel m out way → foldS f out ds = some a → ProgP way a (graph_Order_3_l1 U self x0 k (i : Int) m out)
  | [], k, i, m, out, a, hd, hi, hk, hg, hm, h => by
    obtain ⟨k, rfl⟩ : ∃ m, k = m + 1 := ⟨k - 1, by omega⟩
    have hlen : x.length ≤ i := by
      have := congrArg List.length hd
      simp at this; omega
    simp only [foldS, Option.some.injEq] at h
    subst h
    exact ⟨m, by rw [graph_Order_3_l1, hx, if_neg (by omega)], hm⟩
  | d :: ds, k, i, m, out, a, hd, hi, hk, hg, hm, h => by
    obtain ⟨k, rfl⟩ : ∃ m, k = m + 1 := ⟨k - 1, by omega⟩
    have hlt : i < x.length := by
      have := congrArg List.length hd
      simp at this; omega
    have hd2 : x[i] = d ∧ x.drop (i + 1) = ds := by
      rw [drop_at hlt] at hd
      injection hd with h1 h2
      exact ⟨h1, h2⟩
    have hk2 : ds.length < k := by simpa using hk
    rw [graph_Order_3_l1, hx, if_pos (by omega), if_pos (by omega), gt_at hlt, hd2.1, next64 (by omega)]
    unfold foldS at h
    split at h
    · rename_i o1 h1
      obtain ⟨m1, hq, hm1⟩ := hf _ _ _ _ hg hm h1
      rw [hq]
      exact prog_fold hx hl hf hg1 ds k (i + 1) m1 o1 a hd2.2 (by omega) hk2 (hg1 _ _ _ hg h1) hm1 h
    · rename_i hne
      have hq := hf _ _ _ _ hg hm h
      cases a with
      | ok o => rw [h] at hne; exact absurd rfl (hne _)
      | error z =>
        obtain ⟨s, e⟩ := z
        change _ = _ at hq
        rw [hq]
        rfl
theorem prog_come {L : List Un} {U : List (Pa × Un)} (hU : ∀ p, mget p U = findU L p) (hL : L.length ≤ 100) (hD : ∀ u ∈ L, u.Deps.length ≤ 100) :
    ∀ (n k : Nat) (way out : List Pa) (m : List (Pa × Int)) (p : Pa) (a : Ans), n ≤ k → Good L out way → Rel m out way → comeS L n out way p = some a → ProgP way a (graph_Order_3_n k U m out p)
  | 0, k, way, out, m, p, a, hk, hg, hm, h => by cases h
  | n + 1, k, way, out, m, p, a, hk, hg, hm, h => by
    obtain ⟨k, rfl⟩ : ∃ m, k = m + 1 := ⟨k - 1, by omega⟩
    have hlen := hg.len
    show ProgP way a (graph_Order_3_b (graph_Order_3_n k) U m out p)
    unfold graph_Order_3_b
    rw [hm p, hU p]
    unfold comeS at h
    by_cases hp : p ∈ out
    · rw [if_pos hp] at h
      simp only [Option.some.injEq] at h
      subst h
      rw [if_pos hp, if_pos rfl]
      exact ⟨m, rfl, hm⟩
    rw [if_neg hp] at h
    rw [if_neg hp]
    by_cases hw : p ∈ way
    · rw [if_pos hw] at h
      simp only [Option.some.injEq] at h
      subst h
      rw [if_pos hw, if_neg (by decide), if_pos rfl]
      rfl
    rw [if_neg hw] at h
    rw [if_neg hw, if_neg (by decide), if_neg (by decide)]
    cases hf : findU L p with
    | none =>
      rw [hf] at h
      simp only [Option.some.injEq] at h
      subst h
      rfl
    | some u =>
      rw [hf] at h
      simp only [] at h
      have hul := hD u (List.mem_of_find?_eq_some hf)
      simp only [Option.isSome_some, if_true, Option.getD_some]
      rw [twice_ok (by omega)]
      simp only [R.bind_ok]
      by_cases hn : u.Deps.Nodup
      · rw [if_pos hn] at h
        rw [decide_eq_true hn]
        simp only [Bool.not_true, Bool.false_eq_true, if_false]
        have g0 := hg.way hp hw (findU_mem hf)
        have m0 := hm.on hp hw
        have hf1 : ∀ m out d a, Good L out (way ++ [p]) → Rel m out (way ++ [p]) → comeS L n out (way ++ [p]) d = some a → ProgP (way ++ [p]) a (graph_Order_3_n k U m out d) := fun m out d a hg hm h => prog_come hU hL hD n k (way ++ [p]) out m d a (by omega) hg hm h
        have hg1 : ∀ out d out', Good L out (way ++ [p]) → comeS L n out (way ++ [p]) d = some (.ok out') → Good L out' (way ++ [p]) := fun out d out' hg h => (come_good L n (way ++ [p]) out d out' hg h).1
        have key := fun a ha => prog_fold (x0 := p) (x := u.Deps) (f := fun out d => comeS L n out (way ++ [p]) d) (by rw [hU p, hf]; rfl) (by omega) hf1 hg1 u.Deps Many 0 (mset p 1 m) out a List.drop_zero (Nat.zero_le _) (many_gt (by omega)) g0 m0 ha
        rw [show ((0 : Nat) : Int) = 0 from rfl] at key
        split at h
        · rename_i o1 h1
          simp only [Option.some.injEq] at h
          subst h
          obtain ⟨m1, hq, hm1⟩ := key _ h1
          rw [hq]
          simp only [R.bind_ok]
          have g1 : Good L o1 (way ++ [p]) := (fold_good (fun out d out' => come_good L n (way ++ [p]) out d out') u.Deps out o1 g0 h1).1
          have := g1.len
          unfold graph_Order_3_j0
          rw [if_pos (by simp only [List.length_singleton]; omega)]
          exact ⟨_, rfl, hm1.off⟩
        · rename_i hne
          have hq := key _ h
          cases a with
          | ok o => rw [h] at hne; exact absurd rfl (hne _)
          | error z =>
            obtain ⟨s, e⟩ := z
            change _ = _ at hq
            rw [hq]
            rfl
      · rw [if_neg hn] at h
        simp only [Option.some.injEq] at h
        subst h
        rw [decide_eq_false hn]
        rfl

/-! ### Order -/
def orderS (L : List Un) (asked : List Pa) : Option Ans := foldS (fun o d => comeS L (L.length + 1) o [] d) [] asked
def ansOf : Ans → List Pa × Pa × Int
  | .ok out => (out, [], 0)
  | .error (q, e) => ([], q, e)
theorem good_nil (L : List Un) : Good L [] [] := ⟨List.nodup_nil, fun q hq => by cases hq⟩
theorem order_some (L : List Un) (asked : List Pa) : (orderS L asked).isSome = true :=
  fold_some (f := fun o d => comeS L (L.length + 1) o [] d) (way := []) (fun out d out' => come_good L _ [] out d out') (fun out d hg => come_some L _ [] out d hg (by simp)) asked [] (good_nil L)
theorem prog_loop {L : List Un} {U : List (Pa × Un)} {x : List Pa} (hl : x.length ≤ 1000) {f : List Pa → Pa → Option Ans}
    (hf : ∀ m out d a, Good L out [] → Rel m out [] → f out d = some a → ProgP [] a (graph_Order_3 U m out d)) (hg1 : ∀ out d out', Good L out [] → f out d = some (.ok out') → Good L out' []) :
    ∀ (ds : List Pa) (k i : Nat) (m : List (Pa × Int)) (out : List Pa) (a : Ans), x.drop i = ds → i ≤ x.length → ds.length < k → Good L out [] → Rel m out [] → foldS f out ds = some a → 
      match a with
      | .ok out' => ∃ m', graph_Order_l1 U x k (i : Int) out m = .ok (out', m')
      | .error (q, e) => graph_Order_l1 U x k (i : Int) out m = .pan (wr q e)
  | [], k, i, m, out, a, hd, hi, hk, hg, hm, h => by
    obtain ⟨k, rfl⟩ : ∃ m, k = m + 1 := ⟨k - 1, by omega⟩
    have hlen : x.length ≤ i := by
      have := congrArg List.length hd
      simp at this; omega
    simp only [foldS, Option.some.injEq] at h
    subst h
    exact ⟨m, by rw [graph_Order_l1, if_neg (by omega)]⟩
  | d :: ds, k, i, m, out, a, hd, hi, hk, hg, hm, h => by
    obtain ⟨k, rfl⟩ : ∃ m, k = m + 1 := ⟨k - 1, by omega⟩
    have hlt : i < x.length := by
      have := congrArg List.length hd
      simp at this; omega
    have hd2 : x[i] = d ∧ x.drop (i + 1) = ds := by
      rw [drop_at hlt] at hd
      injection hd with h1 h2
      exact ⟨h1, h2⟩
    have hk2 : ds.length < k := by simpa using hk
    rw [graph_Order_l1, if_pos (by omega), if_pos (by omega), gt_at hlt, hd2.1, next64 (by omega)]
    unfold foldS at h
    split at h
    · rename_i o1 h1
      obtain ⟨m1, hq, hm1⟩ := hf _ _ _ _ hg hm h1
      rw [hq]
      exact prog_loop hl hf hg1 ds k (i + 1) m1 o1 a hd2.2 (by omega) hk2 (hg1 _ _ _ hg h1) hm1 h
    · rename_i hne
      have hq := hf _ _ _ _ hg hm h
      cases a with
      | ok o => rw [h] at hne; exact absurd rfl (hne _)
      | error z =>
        obtain ⟨s, e⟩ := z
        change _ = _ at hq
        rw [hq]
        rfl
theorem any_loop {L : List Un} (hL : L.length ≤ 1000) (hD : ∀ u ∈ L, u.Deps.length ≤ 100) : ∀ (d k i : Nat), i + d = L.length → d < k → slices_IndexFunc_apiUnit_l1 L k (i : Int) = .ok (.inl ())
  | 0, k, i, hi, hk => by
    obtain ⟨k, rfl⟩ : ∃ m, k = m + 1 := ⟨k - 1, by omega⟩
    rw [slices_IndexFunc_apiUnit_l1, if_neg (by omega)]
  | d + 1, k, i, hi, hk => by
    obtain ⟨k, rfl⟩ : ∃ m, k = m + 1 := ⟨k - 1, by omega⟩
    have hlt : i < L.length := by omega
    have := hD L[i] (List.getElem_mem hlt)
    rw [slices_IndexFunc_apiUnit_l1, if_pos (by omega), if_pos (by omega), gt_at hlt, next64 (by omega)]
    unfold graph_Order_1
    rw [decide_eq_false (by omega)]
    exact any_loop hL hD d k (i + 1) (by omega) (by omega)
theorem order_prog {L : List Un} {asked : List Pa} (hL : L.length ≤ 100) (hD : ∀ u ∈ L, u.Deps.length ≤ 100) (ha : asked.length ≤ 100) {a : Ans} (h : orderS L asked = some a) : graph_Order L asked = .ok (ansOf a) := by
  unfold graph_Order slices_ContainsFunc_apiUnit slices_IndexFunc_apiUnit
  have h1 := any_loop (by omega) hD L.length Many 0 (by omega) (many_gt (by omega))
  rw [show ((0 : Nat) : Int) = 0 from rfl] at h1
  rw [if_neg (by omega), if_neg (by omega), h1]
  unfold slices_IndexFunc_apiUnit_j0
  simp only [R.bind_ok]
  rw [decide_eq_false (by decide)]
  simp only [Bool.false_eq_true, if_false]
  obtain ⟨U, hU1, hU2⟩ := units_ok (L := L) (by omega)
  rw [hU1]
  simp only [R.sure_ok, R.bind_ok]
  have key := prog_loop (L := L) (U := U) (x := asked) (by omega) (f := fun o d => comeS L (L.length + 1) o [] d) (fun m out d a hg hm h => prog_come hU2 hL hD (L.length + 1) Many [] out m d a (Nat.le_of_lt (many_gt (by omega))) hg hm h)
    (fun out d out' hg h => (come_good L _ [] out d out' hg h).1) asked Many 0 [] [] a List.drop_zero (Nat.zero_le _) (many_gt (by omega)) (good_nil L) (fun q => rfl) h
  rw [show ((0 : Nat) : Int) = 0 from rfl] at key
  cases a with
  | ok out =>
    obtain ⟨m', hq⟩ := key
    rw [hq]
    rfl
  | error z =>
    obtain ⟨s, e⟩ := z
    change _ = _ at key
    rw [key]
    rfl
theorem ref_loop {L : List Un} {x : List Pa} (hl : x.length ≤ 1000) {f : List Pa → Pa → Option Ans}
    (hf : ∀ out d a, Good L out [] → f out d = some a → RefP L [] [] a (glossaryref10_walk_come L out [] [] 0 d)) (hg1 : ∀ out d out', Good L out [] → f out d = some (.ok out') → Good L out' []) :
    ∀ (ds : List Pa) (k i : Nat) (out : List Pa) (a : Ans), x.drop i = ds → i ≤ x.length → ds.length < k → Good L out [] → foldS f out ds = some a → RefP L [] [] a (glossaryref10_Order_l1 x k (i : Int) L out [] [] 0)
  | [], k, i, out, a, hd, hi, hk, hg, h => by
    obtain ⟨k, rfl⟩ : ∃ m, k = m + 1 := ⟨k - 1, by omega⟩
    have hlen : x.length ≤ i := by
      have := congrArg List.length hd
      simp at this; omega
    simp only [foldS, Option.some.injEq] at h
    subst h
    show _ = _
    rw [glossaryref10_Order_l1, if_neg (by omega)]
  | d :: ds, k, i, out, a, hd, hi, hk, hg, h => by
    obtain ⟨k, rfl⟩ : ∃ m, k = m + 1 := ⟨k - 1, by omega⟩
    have hlt : i < x.length := by
      have := congrArg List.length hd
      simp at this; omega
    have hd2 : x[i] = d ∧ x.drop (i + 1) = ds := by
      rw [drop_at hlt] at hd
      injection hd with h1 h2
      exact ⟨h1, h2⟩
    have hk2 : ds.length < k := by simpa using hk
    rw [glossaryref10_Order_l1, if_pos (by omega), if_pos (by omega), gt_at hlt, hd2.1, next64 (by omega)]
    unfold foldS at h
    split at h
    · rename_i o1 h1
      have hq := hf _ _ _ hg h1
      change _ = _ at hq
      rw [hq]
      exact ref_loop hl hf hg1 ds k (i + 1) o1 a hd2.2 (by omega) hk2 (hg1 _ _ _ hg h1) h
    · rename_i hne
      have hq := hf _ _ _ hg h
      cases a with
      | ok o => rw [h] at hne; exact absurd rfl (hne _)
      | error z =>
        obtain ⟨s, e⟩ := z
        obtain ⟨he, out', hq⟩ := hq
        rw [hq]
        have hdl : ds.length = x.length - (i + 1) := by rw [← hd2.2, List.length_drop]
        refine ⟨he, out', ?_⟩
        show glossaryref10_Order_l1 x k ((i + 1 : Nat) : Int) L out' [] s e = _
        have stop : ∀ (d k i : Nat), i + d = x.length → d < k → glossaryref10_Order_l1 x k (i : Int) L out' [] s e = .ok (L, out', [], s, e) := by
          intro d
          induction d with
          | zero =>
            intro k i hi hk
            obtain ⟨k, rfl⟩ : ∃ m, k = m + 1 := ⟨k - 1, by omega⟩
            rw [glossaryref10_Order_l1, if_neg (by omega)]
          | succ d ih =>
            intro k i hi hk
            obtain ⟨k, rfl⟩ : ∃ m, k = m + 1 := ⟨k - 1, by omega⟩
            rw [glossaryref10_Order_l1, if_pos (by omega), if_pos (by omega)]
            unfold glossaryref10_walk_come
            rw [show Many = 999999999 + 1 from rfl, ref_stop he, next64 (by omega)]
            exact ih k (i + 1) (by omega) (by omega)
        exact stop (x.length - (i + 1)) k (i + 1) (by omega) (by omega)
theorem ref_any {L : List Un} (hL : L.length ≤ 1000) (hD : ∀ u ∈ L, u.Deps.length ≤ 100) : ∀ (d k i : Nat), i + d = L.length → d < k → glossaryref10_Order_l3 L k (i : Int) = .ok (.inl ())
  | 0, k, i, hi, hk => by
    obtain ⟨k, rfl⟩ : ∃ m, k = m + 1 := ⟨k - 1, by omega⟩
    rw [glossaryref10_Order_l3, if_neg (by omega)]
  | d + 1, k, i, hi, hk => by
    obtain ⟨k, rfl⟩ : ∃ m, k = m + 1 := ⟨k - 1, by omega⟩
    have hlt : i < L.length := by omega
    have := hD L[i] (List.getElem_mem hlt)
    rw [glossaryref10_Order_l3, if_pos (by omega), if_pos (by omega), gt_at hlt, next64 (by omega), if_neg (by omega)]
    exact ref_any hL hD d k (i + 1) (by omega) (by omega)
theorem order_ref {L : List Un} {asked : List Pa} (hL : L.length ≤ 100) (hD : ∀ u ∈ L, u.Deps.length ≤ 100) (ha : asked.length ≤ 100) {a : Ans} (h : orderS L asked = some a) : glossaryref10_Order L asked = .ok (ansOf a) := by
  unfold glossaryref10_Order
  have h1 := ref_any (by omega) hD L.length Many 0 (by omega) (many_gt (by omega))
  rw [show ((0 : Nat) : Int) = 0 from rfl] at h1
  rw [if_neg (by omega), decide_eq_false (by omega)]
  simp only [R.bind_ok, Bool.false_eq_true, if_false]
  rw [h1]
  simp only [R.bind_ok]
  unfold glossaryref10_Order_j2
  have key := ref_loop (L := L) (x := asked) (by omega) (f := fun o d => comeS L (L.length + 1) o [] d) (fun out d a hg h => ref_come hL hD (L.length + 1) Many [] out [] d a (many_gt (by omega)) hg h)
    (fun out d out' hg h => (come_good L _ [] out d out' hg h).1) asked Many 0 [] a List.drop_zero (Nat.zero_le _) (many_gt (by omega)) (good_nil L) h
  rw [show ((0 : Nat) : Int) = 0 from rfl] at key
  cases a with
  | ok out =>
    change _ = _ at key
    rw [key]
    rfl
  | error z =>
    obtain ⟨s, e⟩ := z
    obtain ⟨he, out', hq⟩ := key
    rw [hq]
    simp only [R.bind_ok]
    unfold glossaryref10_Order_j0
    rw [if_neg he]
    rfl

/-! ### The laws' own helpers -/
theorem same_loop {x : List Pa} (hx : x.length ≤ 100000) : ∀ (d k i : Nat), i + d = x.length → d < k → glossaryref10_Same_l1 x x k (i : Int) = .ok (.inl ())
  | 0, k, i, hi, hk => by
    obtain ⟨k, rfl⟩ : ∃ m, k = m + 1 := ⟨k - 1, by omega⟩
    rw [glossaryref10_Same_l1, if_neg (by omega)]
  | d + 1, k, i, hi, hk => by
    obtain ⟨k, rfl⟩ : ∃ m, k = m + 1 := ⟨k - 1, by omega⟩
    rw [glossaryref10_Same_l1, if_pos (by omega), if_pos (by omega), if_pos (by omega), if_pos rfl, next64 (by omega)]
    exact same_loop hx d k (i + 1) (by omega) (by omega)
theorem same_ok {x : List Pa} (hx : x.length ≤ 100000) : glossaryref10_Same x x = .ok true := by
  unfold glossaryref10_Same
  have h := same_loop hx x.length Many 0 (by omega) (many_gt (by omega))
  rw [show ((0 : Nat) : Int) = 0 from rfl] at h
  rw [if_pos rfl, h]
  rfl
theorem few_loop {L : List Un} (hL : L.length ≤ 30) : ∀ (d k i : Nat), i + d = L.length → d < k → glossarylaw10_few_l1 L k (i : Int) = .ok (.inr false) ∨ (glossarylaw10_few_l1 L k (i : Int) = .ok (.inl ()) ∧ ∀ u ∈ L.drop i, u.Deps.length ≤ 30)
  | 0, k, i, hi, hk => by
    obtain ⟨k, rfl⟩ : ∃ m, k = m + 1 := ⟨k - 1, by omega⟩
    refine .inr ⟨by rw [glossarylaw10_few_l1, if_neg (by omega)], ?_⟩
    rw [List.drop_eq_nil_of_le (by omega)]
    intro u hu
    cases hu
  | d + 1, k, i, hi, hk => by
    obtain ⟨k, rfl⟩ : ∃ m, k = m + 1 := ⟨k - 1, by omega⟩
    have hlt : i < L.length := by omega
    rw [glossarylaw10_few_l1, if_pos (by omega), if_pos (by omega), gt_at hlt, next64 (by omega), drop_at hlt]
    by_cases h : (30 : Int) < (L[i].Deps.length : Int)
    · rw [if_pos h]; exact .inl rfl
    rw [if_neg h]
    simp only [R.bind_ok]
    by_cases h2 : (30 : Int) < (L[i].Public.length : Int)
    · rw [decide_eq_true h2]; exact .inl rfl
    rw [decide_eq_false h2]
    rcases few_loop hL d k (i + 1) (by omega) (by omega) with h' | ⟨h', h3⟩
    · exact .inl h'
    · refine .inr ⟨h', fun u hu => ?_⟩
      rcases List.mem_cons.1 hu with rfl | hu
      · omega
      · exact h3 u hu
theorem few_ok (L : List Un) : glossarylaw10_few L = .ok false ∨ (glossarylaw10_few L = .ok true ∧ L.length ≤ 30 ∧ ∀ u ∈ L, u.Deps.length ≤ 30) := by
  unfold glossarylaw10_few
  by_cases h : (30 : Int) < (L.length : Int)
  · rw [if_pos h]; exact .inl rfl
  rw [if_neg h]
  have h1 := few_loop (L := L) (by omega) L.length Many 0 (by omega) (many_gt (by omega))
  rw [show ((0 : Nat) : Int) = 0 from rfl, List.drop_zero] at h1
  rcases h1 with h1 | ⟨h1, h2⟩
  · rw [h1]; exact .inl rfl
  · rw [h1]; exact .inr ⟨rfl, by omega, h2⟩
theorem order_len {L : List Un} {asked out : List Pa} (h : orderS L asked = some (.ok out)) : out.length ≤ L.length := by
  have := (fold_good (f := fun o d => comeS L (L.length + 1) o [] d) (way := []) (fun out d out' => come_good L _ [] out d out') asked [] out (good_nil L) h).1.len
  simp at this
  omega
theorem ans_len {L : List Un} {asked : List Pa} {a : Ans} (h : orderS L asked = some a) : (ansOf a).1.length ≤ L.length := by
  cases a with
  | ok out => exact order_len h
  | error z => exact Nat.zero_le _
end Go.Proofs.Ytmaabgkgjknhpaa.Pv
