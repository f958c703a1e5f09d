/- What graph.Order answers, as a plain function: paths, each behind its imports. -/
import Derived.Test.YtmaabgkgjknhpaaG10
import Derived.Test.YtmaabgkgjknhpaaPwX
set_option linter.unusedVariables false
set_option linter.unusedSimpArgs false
set_option maxRecDepth 20000
namespace Go.Proofs.Ytmaabgkgjknhpaa.Pv
open Go Go.Proofs

abbrev Pa := List UInt8
abbrev Un := S_api_Unit
def findU (L : List Un) (p : Pa) : Option Un := L.find? fun u => decide (u.Path = p)
abbrev Ans := Except (Pa × Int) (List Pa)
def foldS (f : List Pa → Pa → Option Ans) : List Pa → List Pa → Option Ans
  | out, [] => some (.ok out)
  | out, d :: ds => match f out d with
    | some (.ok out') => foldS f out' ds
    | r => r
def comeS (L : List Un) : Nat → List Pa → List Pa → Pa → Option Ans
  | 0, _, _, _ => none
  | n + 1, out, way, p =>
    if p ∈ out then some (.ok out)
    else if p ∈ way then some (.error (p, 101))
    else match findU L p with
      | none => some (.error (p, 100))
      | some u => if u.Deps.Nodup then
          match foldS (fun out d => comeS L n out (way ++ [p]) d) out u.Deps with
          | some (.ok out') => some (.ok (out' ++ [p]))
          | r => r
        else some (.error (p, 102))
/-- Each once, each a unit. -/
def Good (L : List Un) (out way : List Pa) : Prop := (out ++ way).Nodup ∧ ∀ q ∈ out ++ way, q ∈ L.map (·.Path)
theorem nodup_len : ∀ {l m : List Pa}, l.Nodup → (∀ x ∈ l, x ∈ m) → l.length ≤ m.length
  | [], m, _, _ => Nat.zero_le _
  | x :: l, m, hn, hs => by
    rw [List.nodup_cons] at hn
    have hx := hs x List.mem_cons_self
    have := nodup_len (l := l) (m := m.erase x) hn.2 fun y hy => (List.mem_erase_of_ne (fun e => hn.1 (by rw [← e]; exact hy))).2 (hs y (List.mem_cons_of_mem _ hy))
    rw [List.length_erase_of_mem hx] at this
    have := List.length_pos_of_mem hx
    simp only [List.length_cons]
    omega
theorem Good.len {L : List Un} {out way : List Pa} (h : Good L out way) : out.length + way.length ≤ L.length := by
  have := nodup_len h.1 h.2
  simpa using this
theorem findU_mem {L : List Un} {p : Pa} {u : Un} (h : findU L p = some u) : p ∈ L.map (·.Path) := by
  unfold findU at h
  have h1 := List.mem_of_find?_eq_some h
  have h2 := List.find?_some h
  simp only [decide_eq_true_eq] at h2
  exact List.mem_map.2 ⟨u, h1, h2⟩
theorem Good.way {L : List Un} {out way : List Pa} (h : Good L out way) {p : Pa} (h1 : p ∉ out) (h2 : p ∉ way) (hp : p ∈ L.map (·.Path)) : Good L out (way ++ [p]) := by
  refine ⟨?_, fun q hq => ?_⟩
  · rw [← List.append_assoc, List.nodup_append]
    refine ⟨h.1, by simp, fun a ha b hb => ?_⟩
    simp only [List.mem_singleton] at hb
    subst hb
    rintro rfl
    rcases List.mem_append.1 ha with h | h
    · exact h1 h
    · exact h2 h
  · simp only [← List.append_assoc, List.mem_append, List.mem_singleton] at hq
    rcases hq with hq | rfl
    · exact h.2 q (List.mem_append.2 hq)
    · exact hp
theorem Good.done {L : List Un} {out way : List Pa} {p : Pa} (h : Good L out (way ++ [p])) : Good L (out ++ [p]) way := by
  have hp : (out ++ (way ++ [p])).Perm (out ++ [p] ++ way) := by
    rw [List.append_assoc]
    exact List.Perm.append_left _ List.perm_append_comm
  exact ⟨(hp.nodup_iff).1 h.1, fun q hq => h.2 q (hp.mem_iff.2 hq)⟩
theorem fold_good {L : List Un} {f : List Pa → Pa → Option Ans} {way : List Pa} (hf : ∀ out d out', Good L out way → f out d = some (.ok out') → Good L out' way ∧ (∀ q ∈ out, q ∈ out') ∧ d ∈ out') :
    ∀ (ds out out' : List Pa), Good L out way → foldS f out ds = some (.ok out') → Good L out' way ∧ (∀ q ∈ out, q ∈ out') ∧ ∀ d ∈ ds, d ∈ out'
  | [], out, out', hg, h => by
    simp only [foldS, Option.some.injEq, Except.ok.injEq] at h
    subst h
    exact ⟨hg, fun _ h => h, by simp⟩
  | d :: ds, out, out', hg, h => by
    unfold foldS at h
    split at h
    · rename_i o1 h1
      obtain ⟨g1, s1, m1⟩ := hf _ _ _ hg h1
      obtain ⟨g2, s2, m2⟩ := fold_good hf ds o1 out' g1 h
      refine ⟨g2, fun q hq => s2 q (s1 q hq), fun q hq => ?_⟩
      rcases List.mem_cons.1 hq with rfl | hq
      · exact s2 _ m1
      · exact m2 q hq
    · rename_i hne
      rw [h] at hne
      exact absurd rfl (hne _)
theorem come_good (L : List Un) : ∀ (n : Nat) (way out : List Pa) (p : Pa) (out' : List Pa), Good L out way → comeS L n out way p = some (.ok out') → Good L out' way ∧ (∀ q ∈ out, q ∈ out') ∧ p ∈ out'
  | 0, way, out, p, out', hg, h => by cases h
  | n + 1, way, out, p, out', hg, h => by
    unfold comeS at h
    split at h
    · rename_i hp
      simp only [Option.some.injEq, Except.ok.injEq] at h
      subst h
      exact ⟨hg, fun _ h => h, hp⟩
    · rename_i hp
      split at h
      · cases h
      · rename_i hw
        split at h
        · cases h
        · rename_i u hu
          split at h
          · split at h
            · rename_i o1 h1
              simp only [Option.some.injEq, Except.ok.injEq] at h
              subst h
              have g0 := hg.way hp hw (findU_mem hu)
              obtain ⟨g1, s1, m1⟩ := fold_good (fun out d out' => come_good L n (way ++ [p]) out d out') u.Deps out o1 g0 h1
              exact ⟨g1.done, fun q hq => List.mem_append_left _ (s1 q hq), List.mem_append_right _ (by simp)⟩
            · rename_i hne
              rw [h] at hne
              exact absurd rfl (hne _)
          · cases h
theorem fold_some {L : List Un} {f : List Pa → Pa → Option Ans} {way : List Pa} (hf : ∀ out d out', Good L out way → f out d = some (.ok out') → Good L out' way ∧ (∀ q ∈ out, q ∈ out') ∧ d ∈ out') (ht : ∀ out d, Good L out way → (f out d).isSome = true) :
    ∀ (ds out : List Pa), Good L out way → (foldS f out ds).isSome = true
  | [], out, hg => rfl
  | d :: ds, out, hg => by
    unfold foldS
    split
    · rename_i o1 h1
      exact fold_some hf ht ds o1 (hf _ _ _ hg h1).1
    · exact ht out d hg
theorem come_some (L : List Un) : ∀ (n : Nat) (way out : List Pa) (p : Pa), Good L out way → L.length < n + way.length → (comeS L n out way p).isSome = true
  | 0, way, out, p, hg, hn => by have := hg.len; omega
  | n + 1, way, out, p, hg, hn => by
    unfold comeS
    split
    · rfl
    · rename_i hp
      split
      · rfl
      · rename_i hw
        split
        · rfl
        · rename_i u hu
          split
          · have g0 := hg.way hp hw (findU_mem hu)
            have := fold_some (f := fun out d => comeS L n out (way ++ [p]) d) (fun out d out' => come_good L n (way ++ [p]) out d out') (fun out d hg' => come_some L n (way ++ [p]) out d hg' (by simp; omega)) u.Deps out g0
            split
            · rfl
            · exact this
          · rfl

/-! ### The reference -/
theorem in_loop {x : List Pa} (s : Pa) (hx : x.length ≤ 100000) : ∀ (d k i : Nat), i + d = x.length → d < k → glossaryref10_In_l1 x s k (i : Int) = .ok (if s ∈ x.drop i then .inr true else .inl ())
  | 0, k, i, hi, hk => by
    obtain ⟨k, rfl⟩ : ∃ m, k = m + 1 := ⟨k - 1, by omega⟩
    rw [glossaryref10_In_l1, if_neg (by omega), List.drop_eq_nil_of_le (by omega)]
    rfl
  | d + 1, k, i, hi, hk => by
    obtain ⟨k, rfl⟩ : ∃ m, k = m + 1 := ⟨k - 1, by omega⟩
    have hlt : i < x.length := by omega
    rw [glossaryref10_In_l1, if_pos (by omega), if_pos (by omega), gt_at hlt, drop_at hlt]
    by_cases h : x[i] = s
    · rw [if_pos h, if_pos (by rw [h]; simp)]
    · rw [if_neg h, next64 (by omega), in_loop s hx d k (i + 1) (by omega) (by omega)]
      have : (s ∈ x[i] :: x.drop (i + 1)) ↔ s ∈ x.drop (i + 1) := by
        rw [List.mem_cons]
        exact ⟨fun h' => h'.resolve_left fun e => h e.symm, .inr⟩
      simp only [this]
theorem in_ok {x : List Pa} (s : Pa) (hx : x.length ≤ 100000) : glossaryref10_In x s = .ok (decide (s ∈ x)) := by
  unfold glossaryref10_In
  have := in_loop s hx x.length Many 0 (by omega) (many_gt (by omega))
  rw [show ((0 : Nat) : Int) = 0 from rfl] at this
  rw [this, List.drop_zero]
  by_cases h : s ∈ x
  · rw [if_pos h, decide_eq_true h]; rfl
  · rw [if_neg h, decide_eq_false h]; rfl
theorem find_loop {L : List Un} (p : Pa) (hL : L.length ≤ 100000) : ∀ (d k i : Nat), i + d = L.length → d < k →
    (findU (L.drop i) p = none ∧ glossaryref10_Find_l1 L p k (i : Int) = .ok (.inl ())) ∨ ∃ u j, findU (L.drop i) p = some u ∧ glossaryref10_Find_l1 L p k (i : Int) = .ok (.inr ((j : Nat) : Int)) ∧ j < L.length ∧ gt L (j : Int) = u
  | 0, k, i, hi, hk => by
    obtain ⟨k, rfl⟩ : ∃ m, k = m + 1 := ⟨k - 1, by omega⟩
    refine .inl ⟨?_, ?_⟩
    · rw [List.drop_eq_nil_of_le (by omega)]; rfl
    · rw [glossaryref10_Find_l1, if_neg (by omega)]
  | d + 1, k, i, hi, hk => by
    obtain ⟨k, rfl⟩ : ∃ m, k = m + 1 := ⟨k - 1, by omega⟩
    have hlt : i < L.length := by omega
    rw [glossaryref10_Find_l1, if_pos (by omega), if_pos (by omega), gt_at hlt, drop_at hlt]
    by_cases h : L[i].Path = p
    · refine .inr ⟨L[i], i, ?_, by rw [if_pos h], hlt, gt_at hlt⟩
      unfold findU
      rw [List.find?_cons_of_pos (by simpa using h)]
    · rw [if_neg h, next64 (by omega)]
      have e : findU (L[i] :: L.drop (i + 1)) p = findU (L.drop (i + 1)) p := by
        unfold findU
        rw [List.find?_cons_of_neg (by simpa using h)]
      rw [e]
      exact find_loop p hL d k (i + 1) (by omega) (by omega)
theorem find_ok {L : List Un} (p : Pa) (hL : L.length ≤ 100000) : (findU L p = none ∧ glossaryref10_Find L p = .ok (-1)) ∨ ∃ u j, findU L p = some u ∧ glossaryref10_Find L p = .ok ((j : Nat) : Int) ∧ j < L.length ∧ gt L (j : Int) = u := by
  unfold glossaryref10_Find
  have := find_loop p hL L.length Many 0 (by omega) (many_gt (by omega))
  rw [show ((0 : Nat) : Int) = 0 from rfl, List.drop_zero] at this
  rcases this with ⟨h1, h2⟩ | ⟨u, j, h1, h2, h3, h4⟩
  · exact .inl ⟨h1, by rw [h2]; rfl⟩
  · exact .inr ⟨u, j, h1, by rw [h2]; rfl, h3, h4⟩
/-- Is one of them there ahead of itself, from a place on? -/
def dupFrom (x : List Pa) (i : Nat) : Prop := ∃ j, i ≤ j ∧ ∃ h : j < x.length, x[j] ∈ x.take j
theorem dup_nodup (x : List Pa) : ¬ dupFrom x 0 ↔ x.Nodup := by
  unfold List.Nodup
  rw [List.pairwise_iff_getElem]
  constructor
  · intro h i j hi hj hij he
    exact h ⟨j, Nat.zero_le _, hj, by
      rw [← he]
      exact List.mem_of_getElem? (i := i) (by rw [List.getElem?_take, if_pos hij, List.getElem?_eq_getElem])⟩
  · rintro hn ⟨j, _, hj, hm⟩
    obtain ⟨i, hi, he⟩ := List.mem_iff_getElem.1 hm
    rw [List.length_take] at hi
    rw [List.getElem_take] at he
    exact hn i j (by omega) hj (by omega) he
theorem dup_step {x : List Pa} {i : Nat} (h : i < x.length) : dupFrom x i ↔ x[i] ∈ x.take i ∨ dupFrom x (i + 1) := by
  constructor
  · rintro ⟨j, hij, hj, hm⟩
    by_cases e : i = j
    · subst e; exact .inl hm
    · exact .inr ⟨j, by omega, hj, hm⟩
  · rintro (hm | ⟨j, hij, hj, hm⟩)
    · exact ⟨i, Nat.le_refl _, h, hm⟩
    · exact ⟨j, by omega, hj, hm⟩
theorem twice_ref {L out : List _} {r : Nat} {p : Pa} {x way : List Pa} (hr : r < L.length) (hx : (gt L (r : Int) : Un).Deps = x) (hl : x.length ≤ 1000) : ∀ (d k i : Nat), i + d = x.length → d < k →
    (dupFrom x i → glossaryref10_walk_come_l3 L out (r : Int) p k (i : Int) way = .ok (.inr (L, out, way, p, 102))) ∧ (¬ dupFrom x i → glossaryref10_walk_come_l3 L out (r : Int) p k (i : Int) way = .ok (.inl way))
  | 0, k, i, hi, hk => by
    obtain ⟨k, rfl⟩ : ∃ m, k = m + 1 := ⟨k - 1, by omega⟩
    refine ⟨fun ⟨j, h1, h2, _⟩ => by omega, fun _ => ?_⟩
    rw [glossaryref10_walk_come_l3, hx, if_neg (by omega)]
  | d + 1, k, i, hi, hk => by
    obtain ⟨k, rfl⟩ : ∃ m, k = m + 1 := ⟨k - 1, by omega⟩
    have hlt : i < x.length := by omega
    have ih := twice_ref (p := p) (way := way) (out := out) hr hx hl d k (i + 1) (by omega) (by omega)
    rw [dup_step hlt]
    rw [glossaryref10_walk_come_l3, hx, if_pos (by omega), if_pos (by omega), if_pos (by omega), if_pos (by omega), gt_at hlt, Int.toNat_natCast, in_ok _ (by rw [List.length_take]; omega)]
    simp only [R.bind_ok]
    by_cases hm : x[i] ∈ x.take i
    · rw [decide_eq_true hm]
      exact ⟨fun _ => rfl, fun h => absurd (.inl hm) h⟩
    · rw [decide_eq_false hm, next64 (by omega)]
      exact ⟨fun h => ih.1 (h.resolve_left hm), fun h => ih.2 fun h' => h (.inr h')⟩
/-- Behind an error nothing is done. -/
theorem ref_stop {L : List Un} {out way : List Pa} {path p : Pa} {e : Int} (he : e ≠ 0) (k : Nat) : glossaryref10_walk_come_n (k + 1) L out way path e p = .ok (L, out, way, path, e) := by
  show glossaryref10_walk_come_b _ L out way path e p = _
  unfold glossaryref10_walk_come_b
  rw [if_neg he]
  rfl
theorem ref_stop_loop {L : List Un} {r : Int} {x : List Pa} (hx : (gt L r : Un).Deps = x) (hl : x.length ≤ 1000) {out way : List Pa} {path : Pa} {e : Int} (he : e ≠ 0) (k0 : Nat) : ∀ (d k i : Nat), i + d = x.length → d < k →
    glossaryref10_walk_come_l1 L r (glossaryref10_walk_come_n (k0 + 1)) k (i : Int) L out way path e = .ok (L, out, way, path, e)
  | 0, k, i, hi, hk => by
    obtain ⟨k, rfl⟩ : ∃ m, k = m + 1 := ⟨k - 1, by omega⟩
    rw [glossaryref10_walk_come_l1, hx, if_neg (by omega)]
  | d + 1, k, i, hi, hk => by
    obtain ⟨k, rfl⟩ : ∃ m, k = m + 1 := ⟨k - 1, by omega⟩
    rw [glossaryref10_walk_come_l1, hx, if_pos (by omega), if_pos (by omega), ref_stop he]
    simp only [R.sure_ok, R.bind_ok]
    rw [next64 (by omega)]
    exact ref_stop_loop hx hl he k0 d k (i + 1) (by omega) (by omega)
/-- What the reference's walk comes to. -/
def RefP (L : List Un) (way : List Pa) (path : Pa) (r : Ans) (q : R ((List Un) × (List Pa) × (List Pa) × Pa × Int)) : Prop :=
  match r with
  | .ok out' => q = .ok (L, out', way, path, 0)
  | .error (s, e) => e ≠ 0 ∧ ∃ out', q = .ok (L, out', way, s, e)
theorem ref_fold {L : List Un} {r : Nat} {x way : List Pa} {path : Pa} (hr : r < L.length) (hx : (gt L (r : Int) : Un).Deps = x) (hl : x.length ≤ 1000) {f : List Pa → Pa → Option Ans} {k0 : Nat}
    (hf : ∀ out d a, Good L out way → f out d = some a → RefP L way path a (glossaryref10_walk_come_n (k0 + 1) L out way path 0 d)) (hg1 : ∀ out d out', Good L out way → f out d = some (.ok out') → Good L out' way) :
    ∀ (ds : List Pa) (k i : Nat) (out : List Pa) (a : Ans), x.drop i = ds → i ≤ x.length → ds.length < k → Good L out way → foldS f out ds = some a → RefP L way path a (glossaryref10_walk_come_l1 L (r : Int) (glossaryref10_walk_come_n (k0 + 1)) k (i : Int) L out way path 0)
  | [], k, i, out, a, hd, hi, hk, hg, h => by
    obtain ⟨k, rfl⟩ : ∃ m, k = m + 1 := ⟨k - 1, by omega⟩
    have hlen : x.length ≤ i := by
      have := congrArg List.length hd
      simp at this; omega
    simp only [foldS, Option.some.injEq] at h
    subst h
    show _ = _
    rw [glossaryref10_walk_come_l1, hx, if_neg (by omega)]
  | d :: ds, k, i, out, a, hd, hi, hk, hg, h => by
    obtain ⟨k, rfl⟩ : ∃ m, k = m + 1 := ⟨k - 1, by omega⟩
    have hlt : i < x.length := by
      have := congrArg List.length hd
      simp at this; omega
    have hd2 : x[i] = d ∧ x.drop (i + 1) = ds := by
      rw [drop_at hlt] at hd
      injection hd with h1 h2
      exact ⟨h1, h2⟩
    have hk2 : ds.length < k := by simpa using hk
    rw [glossaryref10_walk_come_l1, hx, if_pos (by omega), if_pos (by omega), gt_at hlt, hd2.1]
    unfold foldS at h
    split at h
    · rename_i o1 h1
      have hq := hf _ _ _ hg h1
      change _ = _ at hq
      rw [hq]
      simp only [R.sure_ok, R.bind_ok]
      rw [next64 (by omega)]
      exact ref_fold hr hx hl hf hg1 ds k (i + 1) o1 a hd2.2 (by omega) hk2 (hg1 _ _ _ hg h1) h
    · rename_i hne
      have hq := hf _ _ _ hg h
      cases a with
      | ok o => rw [h] at hne; exact absurd rfl (hne _)
      | error z =>
        obtain ⟨s, e⟩ := z
        obtain ⟨he, out', hq⟩ := hq
        rw [hq]
        simp only [R.sure_ok, R.bind_ok]
        rw [next64 (by omega)]
        have hdl : ds.length = x.length - (i + 1) := by rw [← hd2.2, List.length_drop]
        exact ⟨he, out', ref_stop_loop hx hl he k0 (x.length - (i + 1)) k (i + 1) (by omega) (by omega)⟩
theorem ref_come {L : List Un} (hL : L.length ≤ 100) (hD : ∀ u ∈ L, u.Deps.length ≤ 100) : ∀ (n k : Nat) (way out : List Pa) (path p : Pa) (a : Ans), n < k → Good L out way → comeS L n out way p = some a → RefP L way path a (glossaryref10_walk_come_n k L out way path 0 p)
  | 0, k, way, out, path, p, a, hk, hg, h => by cases h
  | n + 1, k, way, out, path, p, a, hk, hg, h => by
    obtain ⟨k, rfl⟩ : ∃ m, k = m + 1 := ⟨k - 1, by omega⟩
    have hlen := hg.len
    show RefP L way path a (glossaryref10_walk_come_b (glossaryref10_walk_come_n k) L out way path 0 p)
    unfold glossaryref10_walk_come_b
    rw [if_pos rfl, in_ok _ (by omega)]
    simp only [R.bind_ok]
    unfold comeS at h
    by_cases hp : p ∈ out
    · rw [if_pos hp] at h
      simp only [Option.some.injEq] at h
      subst h
      rw [decide_eq_true hp]
      rfl
    rw [if_neg hp] at h
    rw [decide_eq_false hp]
    simp only [Bool.false_eq_true, if_false]
    by_cases hw : p ∈ way
    · rw [if_pos hw] at h
      simp only [Option.some.injEq] at h
      subst h
      refine ⟨by decide, out, ?_⟩
      rcases find_ok p (by omega : L.length ≤ 100000) with ⟨_, hf⟩ | ⟨_, _, _, hf, _⟩
      all_goals
        rw [hf]
        simp only [R.bind_ok]
        rw [in_ok _ (by omega), decide_eq_true hw]
        simp only [R.sure_ok, R.bind_ok, if_true]
        unfold glossaryref10_walk_come_j4
        rw [if_neg (by decide)]
    rw [if_neg hw] at h
    rcases find_ok p (by omega : L.length ≤ 100000) with ⟨hf1, hf⟩ | ⟨u, j, hf1, hf, hj, hgt⟩
    · rw [hf1] at h
      simp only [Option.some.injEq] at h
      subst h
      refine ⟨by decide, out, ?_⟩
      rw [hf]
      simp only [R.bind_ok]
      rw [in_ok _ (by omega), decide_eq_false hw]
      simp only [R.sure_ok, R.bind_ok, Bool.false_eq_true, if_false]
      rw [if_pos (by omega)]
      unfold glossaryref10_walk_come_j4
      rw [if_neg (by decide)]
    · rw [hf1] at h
      simp only [] at h
      rw [hf]
      simp only [R.bind_ok]
      rw [in_ok _ (by omega), decide_eq_false hw]
      simp only [R.sure_ok, R.bind_ok, Bool.false_eq_true, if_false]
      rw [if_neg (by omega)]
      have hum : u ∈ L := List.mem_of_find?_eq_some hf1
      have hul := hD u hum
      have hud : (gt L (j : Int) : Un).Deps = u.Deps := by rw [hgt]
      have htw := twice_ref (out := out) (p := p) (way := way) hj hud (by omega) u.Deps.length Many 0 (by omega) (many_gt (by omega))
      rw [show ((0 : Nat) : Int) = 0 from rfl] at htw
      unfold glossaryref10_walk_come_j4
      rw [if_pos rfl, if_pos (by omega)]
      by_cases hn : u.Deps.Nodup
      · rw [if_pos hn] at h
        rw [htw.2 ((dup_nodup _).2 hn)]
        simp only [R.bind_ok]
        unfold glossaryref10_walk_come_j2
        rw [if_pos (by simp; omega), if_pos (by omega)]
        have g0 := hg.way hp hw (findU_mem hf1)
        have hcut : ((way ++ [p]).take (Int.toNat (IntKind.wrap .i64 ((((way ++ [p]).length : Nat) : Int) - 1)))) = way ∧ 0 ≤ IntKind.wrap .i64 ((((way ++ [p]).length : Nat) : Int) - 1) ∧ IntKind.wrap .i64 ((((way ++ [p]).length : Nat) : Int) - 1) ≤ ((way ++ [p]).length : Int) := by
          have e1 : (way ++ [p]).length = way.length + 1 := by simp
          rw [wrap64 (by omega), e1]
          refine ⟨?_, by omega, by omega⟩
          rw [show Int.toNat (((way.length + 1 : Nat) : Int) - 1) = way.length by omega]
          exact List.take_left
        obtain ⟨k0, rfl⟩ : ∃ m, k = m + 1 := ⟨k - 1, by omega⟩
        have hf : ∀ out d a, Good L out (way ++ [p]) → comeS L n out (way ++ [p]) d = some a → RefP L (way ++ [p]) path a (glossaryref10_walk_come_n (k0 + 1) L out (way ++ [p]) path 0 d) := fun out d a hg h => ref_come hL hD n (k0 + 1) (way ++ [p]) out path d a (by omega) hg h
        have hg1 : ∀ out d out', Good L out (way ++ [p]) → comeS L n out (way ++ [p]) d = some (.ok out') → Good L out' (way ++ [p]) := fun out d out' hg h => (come_good L n (way ++ [p]) out d out' hg h).1
        have key := fun a ha => ref_fold (path := path) (f := fun out d => comeS L n out (way ++ [p]) d) hj hud (by omega) hf hg1 u.Deps Many 0 out a List.drop_zero (Nat.zero_le _) (many_gt (by omega)) g0 ha
        rw [show ((0 : Nat) : Int) = 0 from rfl] at key
        split at h
        · rename_i o1 h1
          simp only [Option.some.injEq] at h
          subst h
          have hq := key _ h1
          change _ = _ at hq
          rw [hq]
          simp only [R.bind_ok]
          have g1 : Good L o1 (way ++ [p]) := (fold_good (fun out d out' => come_good L n (way ++ [p]) out d out') u.Deps out o1 g0 h1).1
          have := g1.len
          unfold glossaryref10_walk_come_j0
          rw [if_pos ⟨hcut.2.1, hcut.2.2⟩, if_pos rfl, if_pos (by simp only [List.length_singleton]; omega), hcut.1]
          rfl
        · rename_i hne
          have hq := key _ h
          cases a with
          | ok o => rw [h] at hne; exact absurd rfl (hne _)
          | error z =>
            obtain ⟨s, e⟩ := z
            obtain ⟨he, out', hq⟩ := hq
            refine ⟨he, out', ?_⟩
            rw [hq]
            simp only [R.bind_ok]
            unfold glossaryref10_walk_come_j0
            rw [if_pos ⟨hcut.2.1, hcut.2.2⟩, if_neg he, hcut.1]
      · rw [if_neg hn] at h
        simp only [Option.some.injEq] at h
        subst h
        refine ⟨by decide, out, ?_⟩
        rw [htw.1 (by
          by_cases hd : dupFrom u.Deps 0
          · exact hd
          · exact absurd ((dup_nodup _).1 hd) hn)]
        rfl
end Go.Proofs.Ytmaabgkgjknhpaa.Pv
