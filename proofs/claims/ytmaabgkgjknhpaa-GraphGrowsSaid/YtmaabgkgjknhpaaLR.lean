/- Paths to which steps lead: the plain part, and law 6. -/
import Derived.Test.YtmaabgkgjknhpaaG8
import Derived.Test.YtmaabgkgjknhpaaLA
set_option linter.unusedVariables false
set_option linter.unusedSimpArgs false
set_option maxRecDepth 20000
namespace Go.Proofs.Ytmaabgkgjknhpaa.Pv
open Go Go.Proofs

abbrev Pa := List UInt8
abbrev Un := S_api_Unit
def findU (L : List Un) (p : Pa) : Option Un := L.find? fun u => decide (u.Path = p)
theorem nodup_len : ∀ {l m : List Pa}, l.Nodup → (∀ x ∈ l, x ∈ m) → l.length ≤ m.length
  | [], m, _, _ => Nat.zero_le _
  | x :: l, m, hn, hs => by
    rw [List.nodup_cons] at hn
    have hx := hs x List.mem_cons_self
    have := nodup_len (l := l) (m := m.erase x) hn.2 fun y hy => (List.mem_erase_of_ne (fun e => hn.1 (by rw [← e]; exact hy))).2 (hs y (List.mem_cons_of_mem _ hy))
    rw [List.length_erase_of_mem hx] at this
    have := List.length_pos_of_mem hx
    simp only [List.length_cons]
    omega
theorem findU_mem {L : List Un} {p : Pa} {u : Un} (h : findU L p = some u) : p ∈ L.map (·.Path) := by
  unfold findU at h
  have h1 := List.mem_of_find?_eq_some h
  have h2 := List.find?_some h
  simp only [decide_eq_true_eq] at h2
  exact List.mem_map.2 ⟨u, h1, h2⟩
theorem in_loop {x : List Pa} (s : Pa) (hx : x.length ≤ 100000) : ∀ (d k i : Nat), i + d = x.length → d < k → glossaryref10_In_l1 x s k (i : Int) = .ok (if s ∈ x.drop i then .inr true else .inl ())
  | 0, k, i, hi, hk => by
    obtain ⟨k, rfl⟩ : ∃ m, k = m + 1 := ⟨k - 1, by omega⟩
    rw [glossaryref10_In_l1, if_neg (by omega), List.drop_eq_nil_of_le (by omega)]
    rfl
  | d + 1, k, i, hi, hk => by
    obtain ⟨k, rfl⟩ : ∃ m, k = m + 1 := ⟨k - 1, by omega⟩
    have hlt : i < x.length := by omega
    rw [glossaryref10_In_l1, if_pos (by omega), if_pos (by omega), gt_at hlt, drop_at hlt]
    by_cases h : x[i] = s
    · rw [if_pos h, if_pos (by rw [h]; simp)]
    · rw [if_neg h, next64 (by omega), in_loop s hx d k (i + 1) (by omega) (by omega)]
      have : (s ∈ x[i] :: x.drop (i + 1)) ↔ s ∈ x.drop (i + 1) := by
        rw [List.mem_cons]
        exact ⟨fun h' => h'.resolve_left fun e => h e.symm, .inr⟩
      simp only [this]
theorem in_ok {x : List Pa} (s : Pa) (hx : x.length ≤ 100000) : glossaryref10_In x s = .ok (decide (s ∈ x)) := by
  unfold glossaryref10_In
  have := in_loop s hx x.length Many 0 (by omega) (many_gt (by omega))
  rw [show ((0 : Nat) : Int) = 0 from rfl] at this
  rw [this, List.drop_zero]
  by_cases h : s ∈ x
  · rw [if_pos h, decide_eq_true h]; rfl
  · rw [if_neg h, decide_eq_false h]; rfl
theorem find_loop {L : List Un} (p : Pa) (hL : L.length ≤ 100000) : ∀ (d k i : Nat), i + d = L.length → d < k →
    (findU (L.drop i) p = none ∧ glossaryref10_Find_l1 L p k (i : Int) = .ok (.inl ())) ∨ ∃ u j, findU (L.drop i) p = some u ∧ glossaryref10_Find_l1 L p k (i : Int) = .ok (.inr ((j : Nat) : Int)) ∧ j < L.length ∧ gt L (j : Int) = u
  | 0, k, i, hi, hk => by
    obtain ⟨k, rfl⟩ : ∃ m, k = m + 1 := ⟨k - 1, by omega⟩
    refine .inl ⟨?_, ?_⟩
    · rw [List.drop_eq_nil_of_le (by omega)]; rfl
    · rw [glossaryref10_Find_l1, if_neg (by omega)]
  | d + 1, k, i, hi, hk => by
    obtain ⟨k, rfl⟩ : ∃ m, k = m + 1 := ⟨k - 1, by omega⟩
    have hlt : i < L.length := by omega
    rw [glossaryref10_Find_l1, if_pos (by omega), if_pos (by omega), gt_at hlt, drop_at hlt]
    by_cases h : L[i].Path = p
    · refine .inr ⟨L[i], i, ?_, by rw [if_pos h], hlt, gt_at hlt⟩
      unfold findU
      rw [List.find?_cons_of_pos (by simpa using h)]
    · rw [if_neg h, next64 (by omega)]
      have e : findU (L[i] :: L.drop (i + 1)) p = findU (L.drop (i + 1)) p := by
        unfold findU
        rw [List.find?_cons_of_neg (by simpa using h)]
      rw [e]
      exact find_loop p hL d k (i + 1) (by omega) (by omega)
theorem find_ok {L : List Un} (p : Pa) (hL : L.length ≤ 100000) : (findU L p = none ∧ glossaryref10_Find L p = .ok (-1)) ∨ ∃ u j, findU L p = some u ∧ glossaryref10_Find L p = .ok ((j : Nat) : Int) ∧ j < L.length ∧ gt L (j : Int) = u := by
  unfold glossaryref10_Find
  have := find_loop p hL L.length Many 0 (by omega) (many_gt (by omega))
  rw [show ((0 : Nat) : Int) = 0 from rfl, List.drop_zero] at this
  rcases this with ⟨h1, h2⟩ | ⟨u, j, h1, h2, h3, h4⟩
  · exact .inl ⟨h1, by rw [h2]; rfl⟩
  · exact .inr ⟨u, j, h1, by rw [h2]; rfl, h3, h4⟩
theorem take_next {α : Type} {x : List α} {i : Nat} (h : i < x.length) : x.take (i + 1) = x.take i ++ [x[i]] := by
  rw [List.take_add_one, List.getElem?_eq_getElem h]; rfl
theorem findU_snoc (L : List Un) (u : Un) (p : Pa) : findU (L ++ [u]) p = (findU L p).or (if u.Path = p then some u else none) := by
  unfold findU
  rw [List.find?_append]
  congr 1
  by_cases h : u.Path = p
  · rw [if_pos h, List.find?_cons_of_pos (by simpa using h)]
  · rw [if_neg h, List.find?_cons_of_neg (by simpa using h)]; rfl
theorem units_loop {L : List Un} (hL : L.length ≤ 100000) : ∀ (d k i : Nat) (m : List (Pa × Un)), i + d = L.length → d < k → (∀ p, mget p m = findU (L.take i) p) → ∃ m', graph_units_l1 L k (i : Int) m = .ok m' ∧ ∀ p, mget p m' = findU L p
  | 0, k, i, m, hi, hk, hm => by
    obtain ⟨k, rfl⟩ : ∃ m, k = m + 1 := ⟨k - 1, by omega⟩
    refine ⟨m, by rw [graph_units_l1, if_neg (by omega)], fun p => ?_⟩
    rw [hm p, List.take_of_length_le (by omega)]
  | d + 1, k, i, m, hi, hk, hm => by
    obtain ⟨k, rfl⟩ : ∃ m, k = m + 1 := ⟨k - 1, by omega⟩
    have hlt : i < L.length := by omega
    rw [graph_units_l1, if_pos (by omega), if_pos (by omega), gt_at hlt, next64 (by omega)]
    by_cases h : (mget L[i].Path m).isSome = true
    · rw [if_pos h]
      refine units_loop hL d k (i + 1) m (by omega) (by omega) fun p => ?_
      rw [take_next hlt, findU_snoc, hm p]
      by_cases e : L[i].Path = p
      · rw [← e, ← hm]
        obtain ⟨u, hu⟩ := Option.isSome_iff_exists.1 h
        rw [hu]; rfl
      · rw [if_neg e, Option.or_none]
    · rw [if_neg h]
      refine units_loop hL d k (i + 1) _ (by omega) (by omega) fun p => ?_
      rw [take_next hlt, findU_snoc, mget_mset, hm p]
      by_cases e : L[i].Path = p
      · rw [if_pos e, if_pos e, ← e, ← hm]
        cases hc : mget L[i].Path m with
        | none => rfl
        | some u => rw [hc] at h; exact absurd rfl h
      · rw [if_neg e, if_neg e, Option.or_none]
theorem units_ok {L : List Un} (hL : L.length ≤ 100000) : ∃ U, graph_units L = .ok U ∧ ∀ p, mget p U = findU L p := by
  obtain ⟨U, h1, h2⟩ := units_loop hL L.length Many 0 [] (by omega) (many_gt (by omega)) (fun p => rfl)
  rw [show ((0 : Nat) : Int) = 0 from rfl] at h1
  exact ⟨U, by unfold graph_units; rw [h1]; rfl, h2⟩
theorem same_loop {x : List Pa} (hx : x.length ≤ 100000) : ∀ (d k i : Nat), i + d = x.length → d < k → glossaryref10_Same_l1 x x k (i : Int) = .ok (.inl ())
  | 0, k, i, hi, hk => by
    obtain ⟨k, rfl⟩ : ∃ m, k = m + 1 := ⟨k - 1, by omega⟩
    rw [glossaryref10_Same_l1, if_neg (by omega)]
  | d + 1, k, i, hi, hk => by
    obtain ⟨k, rfl⟩ : ∃ m, k = m + 1 := ⟨k - 1, by omega⟩
    rw [glossaryref10_Same_l1, if_pos (by omega), if_pos (by omega), if_pos (by omega), if_pos rfl, next64 (by omega)]
    exact same_loop hx d k (i + 1) (by omega) (by omega)
theorem same_ok {x : List Pa} (hx : x.length ≤ 100000) : glossaryref10_Same x x = .ok true := by
  unfold glossaryref10_Same
  have h := same_loop hx x.length Many 0 (by omega) (many_gt (by omega))
  rw [show ((0 : Nat) : Int) = 0 from rfl] at h
  rw [if_pos rfl, h]
  rfl
theorem few_loop {L : List Un} (hL : L.length ≤ 30) : ∀ (d k i : Nat), i + d = L.length → d < k → glossarylaw10_few_l1 L k (i : Int) = .ok (.inr false) ∨ (glossarylaw10_few_l1 L k (i : Int) = .ok (.inl ()) ∧ ∀ u ∈ L.drop i, u.Deps.length ≤ 30 ∧ u.Public.length ≤ 30)
  | 0, k, i, hi, hk => by
    obtain ⟨k, rfl⟩ : ∃ m, k = m + 1 := ⟨k - 1, by omega⟩
    refine .inr ⟨by rw [glossarylaw10_few_l1, if_neg (by omega)], ?_⟩
    rw [List.drop_eq_nil_of_le (by omega)]
    intro u hu
    cases hu
  | d + 1, k, i, hi, hk => by
    obtain ⟨k, rfl⟩ : ∃ m, k = m + 1 := ⟨k - 1, by omega⟩
    have hlt : i < L.length := by omega
    rw [glossarylaw10_few_l1, if_pos (by omega), if_pos (by omega), gt_at hlt, next64 (by omega), drop_at hlt]
    by_cases h : (30 : Int) < (L[i].Deps.length : Int)
    · rw [if_pos h]; exact .inl rfl
    rw [if_neg h]
    simp only [R.bind_ok]
    by_cases h2 : (30 : Int) < (L[i].Public.length : Int)
    · rw [decide_eq_true h2]; exact .inl rfl
    rw [decide_eq_false h2]
    rcases few_loop hL d k (i + 1) (by omega) (by omega) with h' | ⟨h', h3⟩
    · exact .inl h'
    · refine .inr ⟨h', fun u hu => ?_⟩
      rcases List.mem_cons.1 hu with rfl | hu
      · exact ⟨by omega, by omega⟩
      · exact h3 u hu
theorem few_ok (L : List Un) : glossarylaw10_few L = .ok false ∨ (glossarylaw10_few L = .ok true ∧ L.length ≤ 30 ∧ ∀ u ∈ L, u.Deps.length ≤ 30 ∧ u.Public.length ≤ 30) := by
  unfold glossarylaw10_few
  by_cases h : (30 : Int) < (L.length : Int)
  · rw [if_pos h]; exact .inl rfl
  rw [if_neg h]
  have h1 := few_loop (L := L) (by omega) L.length Many 0 (by omega) (many_gt (by omega))
  rw [show ((0 : Nat) : Int) = 0 from rfl, List.drop_zero] at h1
  rcases h1 with h1 | ⟨h1, h2⟩
  · rw [h1]; exact .inl rfl
  · rw [h1]; exact .inr ⟨rfl, by omega, h2⟩
theorem bl_nil (x : Pa) : Op.bytesLess x [] = false := by cases x <;> rfl
theorem bl_cons (a b : UInt8) (x y : Pa) : Op.bytesLess (a :: x) (b :: y) = true ↔ a < b ∨ (a = b ∧ Op.bytesLess x y = true) := by simp [Op.bytesLess]
theorem bl_irr : ∀ x : Pa, ¬ Op.bytesLess x x = true
  | [] => by rw [bl_nil]; decide
  | a :: x => by
    rw [bl_cons]
    rintro (h | ⟨_, h⟩)
    · exact absurd h (UInt8.lt_irrefl a)
    · exact bl_irr x h
theorem bl_trans : ∀ {x y z : Pa}, Op.bytesLess x y = true → Op.bytesLess y z = true → Op.bytesLess x z = true
  | _, [], _, h, _ => by rw [bl_nil] at h; cases h
  | _, _ :: _, [], _, h => by rw [bl_nil] at h; cases h
  | [], _ :: _, _ :: _, _, _ => rfl
  | a :: x, b :: y, c :: z, h1, h2 => by
    rw [bl_cons] at *
    rcases h1 with h1 | ⟨rfl, h1⟩
    · rcases h2 with h2 | ⟨rfl, h2⟩
      · exact .inl (UInt8.lt_trans h1 h2)
      · exact .inl h1
    · rcases h2 with h2 | ⟨rfl, h2⟩
      · exact .inl h2
      · exact .inr ⟨rfl, bl_trans h1 h2⟩
theorem bl_tri : ∀ {x y : Pa}, ¬ Op.bytesLess x y = true → x ≠ y → Op.bytesLess y x = true
  | [], [], _, h => absurd rfl h
  | _ :: _, [], _, _ => rfl
  | [], _ :: _, h, _ => absurd rfl h
  | a :: x, b :: y, h1, h2 => by
    rw [bl_cons] at *
    have h : a.toNat < b.toNat ∨ a.toNat = b.toNat ∨ b.toNat < a.toNat := by omega
    rcases h with h | h | h
    · exact absurd (.inl (UInt8.lt_iff_toNat_lt.2 h)) h1
    · have e := UInt8.toNat_inj.1 h
      subst e
      exact .inr ⟨rfl, bl_tri (fun h => h1 (.inr ⟨rfl, h⟩)) fun e => h2 (by rw [e])⟩
    · exact .inl (UInt8.lt_iff_toNat_lt.2 h)
/-- In order, each once. -/
def Asc (l : List Pa) : Prop := l.Pairwise fun a b => Op.bytesLess a b = true
theorem Asc.nodup {l : List Pa} (h : Asc l) : l.Nodup := by
  unfold List.Nodup
  refine List.Pairwise.imp (fun {a b} h => ?_) h
  intro e
  rw [← e] at h
  exact bl_irr a h
theorem put_loop {x : List Pa} (s : Pa) (hx : x.length ≤ 100000) : ∀ (d k i : Nat), i + d = x.length → d < k →
    ∃ n, i ≤ n ∧ n ≤ x.length ∧ glossaryref10_Put_l1 x s k (i : Int) = .ok ((n : Nat) : Int) ∧ (∀ j (h : j < x.length), i ≤ j → j < n → Op.bytesLess x[j] s = true) ∧ ∀ h : n < x.length, ¬ Op.bytesLess x[n] s = true
  | 0, k, i, hi, hk => by
    obtain ⟨k, rfl⟩ : ∃ m, k = m + 1 := ⟨k - 1, by omega⟩
    refine ⟨i, Nat.le_refl _, by omega, ?_, fun j _ h1 h2 => by omega, fun h => by omega⟩
    rw [glossaryref10_Put_l1, if_neg (by omega)]
    rfl
  | d + 1, k, i, hi, hk => by
    obtain ⟨k, rfl⟩ : ∃ m, k = m + 1 := ⟨k - 1, by omega⟩
    have hlt : i < x.length := by omega
    rw [glossaryref10_Put_l1, if_pos (by omega), if_pos (by omega), gt_at hlt, next64 (by omega)]
    simp only [R.bind_ok]
    by_cases h : Op.bytesLess x[i] s = true
    · rw [if_pos h]
      obtain ⟨n, h1, h2, h3, h4, h5⟩ := put_loop s hx d k (i + 1) (by omega) (by omega)
      refine ⟨n, by omega, h2, h3, fun j hj h6 h7 => ?_, h5⟩
      by_cases e : i = j
      · subst e; exact h
      · exact h4 j hj (by omega) h7
    · rw [if_neg h]
      exact ⟨i, Nat.le_refl _, by omega, rfl, fun j _ h1 h2 => by omega, fun _ => h⟩
theorem put_ok {l : List Pa} (s : Pa) (hl : l.length ≤ 100000) (ha : Asc l) : ∃ l', glossaryref10_Put l s = .ok l' ∧ Asc l' ∧ ∀ q, q ∈ l' ↔ q ∈ l ∨ q = s := by
  obtain ⟨n, _, hn, h1, h2, h3⟩ := put_loop s hl l.length Many 0 (by omega) (many_gt (by omega))
  rw [show ((0 : Nat) : Int) = 0 from rfl] at h1
  unfold glossaryref10_Put
  rw [h1]
  simp only [R.bind_ok]
  unfold glossaryref10_Put_j0
  have hrest : (∀ h : n < l.length, l[n] ≠ s) → ∃ l', (if 0 ≤ (n : Int) ∧ (n : Int) ≤ (List.length l : Int) then (if 0 ≤ (n : Int) ∧ (n : Int) ≤ (List.length l : Int) then (if List.length ([s]) + List.length (List.drop (Int.toNat (n : Int)) l) ≤ 1000000000 then (if (¬ (([s]) ++ (List.drop (Int.toNat (n : Int)) l)) = []) ∧ List.length (List.take (Int.toNat (n : Int)) l) + List.length (([s]) ++ (List.drop (Int.toNat (n : Int)) l)) ≤ 1000000000 then (R.ok ((List.take (Int.toNat (n : Int)) l) ++ (([s]) ++ (List.drop (Int.toNat (n : Int)) l)))) else R.stuck) else R.stuck) else R.stuck) else R.stuck) = .ok l' ∧ Asc l' ∧ ∀ q, q ∈ l' ↔ q ∈ l ∨ q = s := by
    intro hne
    rw [Int.toNat_natCast, if_pos (by omega), if_pos (by omega), if_pos (by simp only [List.length_singleton, List.length_drop]; omega), if_pos ⟨by simp, by simp only [List.length_append, List.length_singleton, List.length_drop, List.length_take]; omega⟩]
    refine ⟨_, rfl, ?_, fun q => ?_⟩
    · have hs : Asc (l.take n ++ l.drop n) := by rw [List.take_append_drop]; exact ha
      unfold Asc at hs ⊢
      rw [List.pairwise_append] at hs
      have hb : ∀ b ∈ l.drop n, Op.bytesLess s b = true := by
        by_cases h : n < l.length
        · have h4 := bl_tri (h3 h) (hne h)
          have h5 := hs.2.1
          rw [drop_at h, List.pairwise_cons] at h5
          rw [drop_at h]
          intro b hb
          rcases List.mem_cons.1 hb with rfl | hb
          · exact h4
          · exact bl_trans h4 (h5.1 b hb)
        · rw [List.drop_eq_nil_of_le (by omega)]
          intro b hb
          cases hb
      have hf : ∀ a ∈ l.take n, Op.bytesLess a s = true := fun a ha => by
        obtain ⟨j, hj, rfl⟩ := List.mem_iff_getElem.1 ha
        rw [List.length_take] at hj
        rw [List.getElem_take]
        exact h2 j (by omega) (Nat.zero_le _) (by omega)
      rw [List.pairwise_append]
      refine ⟨hs.1, ?_, fun a ha b hb' => ?_⟩
      · rw [List.singleton_append, List.pairwise_cons]
        exact ⟨hb, hs.2.1⟩
      · rw [List.singleton_append] at hb'
        rcases List.mem_cons.1 hb' with rfl | hb'
        · exact hf a ha
        · exact hs.2.2 a ha b hb'
    · have : q ∈ l ↔ q ∈ l.take n ∨ q ∈ l.drop n := by rw [← List.mem_append, List.take_append_drop]
      rw [this]
      simp only [List.mem_append, List.mem_singleton]
      constructor
      · rintro (h | h | h)
        · exact .inl (.inl h)
        · exact .inr h
        · exact .inl (.inr h)
      · rintro ((h | h) | h)
        · exact .inl h
        · exact .inr (.inr h)
        · exact .inr (.inl h)
  by_cases h : n < l.length
  · rw [if_pos (by omega), if_pos (by omega), gt_at h]
    simp only [R.bind_ok]
    by_cases e : l[n] = s
    · rw [decide_eq_true e]
      refine ⟨l, rfl, ha, fun q => ⟨.inl, ?_⟩⟩
      rintro (h | rfl)
      · exact h
      · rw [← e]; exact List.getElem_mem _
    · rw [decide_eq_false e]
      exact hrest fun _ => e
  · rw [if_neg (by omega)]
    simp only [R.bind_ok]
    exact hrest fun h' => absurd h' h

/-! ### Sorted lists -/
theorem bl_lt : ∀ {x y : Pa}, Op.bytesLess x y = true ↔ x < y
  | x, [] => by rw [bl_nil]; exact ⟨(fun h => by cases h), fun h => absurd h (List.not_lt_nil x)⟩
  | [], b :: y => ⟨fun _ => List.nil_lt_cons b y, fun _ => rfl⟩
  | a :: x, b :: y => by rw [bl_cons, List.cons_lt_cons_iff, bl_lt]
theorem le_bl {x y : Pa} : x ≤ y ↔ ¬ Op.bytesLess y x = true := by rw [bl_lt]; exact List.not_lt.symm
theorem asc_ext : ∀ {l m : List Pa}, Asc l → Asc m → (∀ q, q ∈ l ↔ q ∈ m) → l = m
  | [], [], _, _, _ => rfl
  | [], y :: m, _, _, h => by have := (h y).2 List.mem_cons_self; cases this
  | x :: l, [], _, _, h => by have := (h x).1 List.mem_cons_self; cases this
  | x :: l, y :: m, hl, hm, h => by
    have hl' := List.pairwise_cons.1 hl
    have hm' := List.pairwise_cons.1 hm
    have e : x = y := by
      apply Classical.byContradiction
      intro hne
      have h1 : x ∈ m := by rcases List.mem_cons.1 ((h x).1 List.mem_cons_self) with e | e <;> first | exact absurd e hne | exact e
      have h2 : y ∈ l := by rcases List.mem_cons.1 ((h y).2 List.mem_cons_self) with e | e <;> first | exact absurd e.symm hne | exact e
      exact bl_irr x (bl_trans (hl'.1 y h2) (hm'.1 x h1))
    subst e
    have nl := (List.nodup_cons.1 (Asc.nodup hl)).1
    have nm := (List.nodup_cons.1 (Asc.nodup hm)).1
    rw [asc_ext hl'.2 hm'.2 fun q => ⟨fun hq => ?_, fun hq => ?_⟩]
    · rcases List.mem_cons.1 ((h q).1 (List.mem_cons_of_mem _ hq)) with e | e
      · subst e; exact absurd hq nl
      · exact e
    · rcases List.mem_cons.1 ((h q).2 (List.mem_cons_of_mem _ hq)) with e | e
      · subst e; exact absurd hq nm
      · exact e
theorem sort_perm (l : List Pa) : (sortT l).Perm l := List.mergeSort_perm _ _
theorem sort_asc {l : List Pa} (h : l.Nodup) : Asc (sortT l) := by
  have h1 : (sortT l).Pairwise fun a b => decide (a ≤ b) = true := List.pairwise_mergeSort (fun a b c hab hbc => by
    simp only [decide_eq_true_eq] at *
    rw [le_bl] at *
    intro hca
    by_cases e : a = b
    · subst e; exact hbc hca
    · have := bl_tri hab (fun e' => e e'.symm)
      exact hbc (bl_trans hca this)) (fun a b => by
    simp only [Bool.or_eq_true, decide_eq_true_eq]
    rw [le_bl, le_bl]
    by_cases hba : Op.bytesLess b a = true
    · exact .inr fun hab => bl_irr a (bl_trans hab hba)
    · exact .inl hba) l
  have h2 : (sortT l).Pairwise fun a b => a ≠ b := ((sort_perm l).nodup_iff).2 h
  unfold Asc
  refine (h1.and h2).imp fun {a b} hab => ?_
  have h3 := hab.1
  simp only [decide_eq_true_eq] at h3
  rw [le_bl] at h3
  exact bl_tri h3 fun e => hab.2 e.symm
theorem sort_mem {l : List Pa} (q : Pa) : q ∈ sortT l ↔ q ∈ l := (sort_perm l).mem_iff
theorem sort_eq {l m : List Pa} (hl : l.Nodup) (h : l.Perm m) : sortT l = sortT m :=
  asc_ext (sort_asc hl) (sort_asc ((h.nodup_iff).1 hl)) fun q => by rw [sort_mem, sort_mem, h.mem_iff]
theorem cons_erase {l : List Pa} {i : Nat} (h : i < l.length) : (l[i] :: l.eraseIdx i).Perm l := by
  rw [List.eraseIdx_eq_take_drop_succ]
  have e : l = l.take i ++ l[i] :: l.drop (i + 1) := by rw [← drop_at h, List.take_append_drop]
  have h2 : (l[i] :: (l.take i ++ l.drop (i + 1))).Perm (l.take i ++ l[i] :: l.drop (i + 1)) := List.perm_middle.symm
  rwa [← e] at h2

/-! ### Steps, one by one -/
def bfs (st : Pa → List Pa) : Nat → List Pa → List Pa → Option (List Pa)
  | 0, _, _ => none
  | n + 1, q, D =>
    match q with
    | [] => some D
    | p :: q => if p ∈ D then bfs st n q D else bfs st n (q ++ st p) (D ++ [p])
/-- What is measured. -/
structure Meas (st : Pa → List Pa) (U q D : List Pa) : Prop where
  step : ∀ p, ∀ x ∈ st p, x ∈ U
  few : ∀ p, (st p).length ≤ 30
  hq : ∀ x ∈ q, x ∈ U
  hd : ∀ x ∈ D, x ∈ U
  nd : D.Nodup
  u : U.length ≤ 1000
  ql : q.length + 31 * (U.length - D.length) ≤ 90000
theorem Meas.old {st : Pa → List Pa} {U q D : List Pa} {p : Pa} (h : Meas st U (p :: q) D) : Meas st U q D :=
  ⟨h.step, h.few, fun x hx => h.hq x (List.mem_cons_of_mem _ hx), h.hd, h.nd, h.u, by have := h.ql; simp only [List.length_cons] at this; omega⟩
theorem Meas.dl {st : Pa → List Pa} {U q D : List Pa} (h : Meas st U q D) : D.length ≤ U.length := nodup_len h.nd h.hd
theorem snoc_nodup {D : List Pa} {p : Pa} (h : D.Nodup) (hp : p ∉ D) : (D ++ [p]).Nodup := by
  rw [List.nodup_append]
  refine ⟨h, by simp, fun a ha b hb => ?_⟩
  simp only [List.mem_singleton] at hb
  subst hb
  rintro rfl
  exact hp ha
theorem Meas.new {st : Pa → List Pa} {U q D : List Pa} {p : Pa} (h : Meas st U (p :: q) D) (hp : p ∉ D) : Meas st U (q ++ st p) (D ++ [p]) ∧ (D.length + 1 ≤ U.length ∧ (q ++ st p).length + 31 * (U.length - (D ++ [p]).length) + 1 ≤ (p :: q).length + 31 * (U.length - D.length)) := by
  have hd : ∀ x ∈ D ++ [p], x ∈ U := fun x hx => by
    rcases List.mem_append.1 hx with hx | hx
    · exact h.hd x hx
    · rw [List.mem_singleton] at hx; subst hx; exact h.hq _ List.mem_cons_self
  have hn := snoc_nodup h.nd hp
  have hl := nodup_len hn hd
  have hf := h.few p
  have hm := h.ql
  simp only [List.length_append, List.length_singleton, List.length_cons] at hl hm ⊢
  refine ⟨⟨h.step, h.few, fun x hx => ?_, hd, hn, h.u, by simp only [List.length_append, List.length_singleton]; omega⟩, by omega, by omega⟩
  rcases List.mem_append.1 hx with hx | hx
  · exact h.hq x (List.mem_cons_of_mem _ hx)
  · exact h.step p x hx
theorem bfs_some {st : Pa → List Pa} {U : List Pa} : ∀ (n : Nat) (q D : List Pa), Meas st U q D → q.length + 31 * (U.length - D.length) < n → ∃ Z, bfs st n q D = some Z
  | 0, q, D, h, hn => by omega
  | n + 1, [], D, h, hn => ⟨D, rfl⟩
  | n + 1, p :: q, D, h, hn => by
    unfold bfs
    by_cases hp : p ∈ D
    · simp only [if_pos hp]
      exact bfs_some n q D h.old (by simp only [List.length_cons] at hn; omega)
    · simp only [if_neg hp]
      obtain ⟨h1, h2, h3⟩ := h.new hp
      exact bfs_some n _ _ h1 (by omega)
theorem bfs_spec {st : Pa → List Pa} : ∀ (n : Nat) (q D Z : List Pa), bfs st n q D = some Z → D.Nodup → (∀ p ∈ D, ∀ x ∈ st p, x ∈ D ∨ x ∈ q) →
    Z.Nodup ∧ (∀ x ∈ D, x ∈ Z) ∧ (∀ x ∈ q, x ∈ Z) ∧ (∀ p ∈ Z, ∀ x ∈ st p, x ∈ Z) ∧ ∀ S : Pa → Prop, (∀ x ∈ q, S x) → (∀ x ∈ D, S x) → (∀ p, S p → ∀ x ∈ st p, S x) → ∀ x ∈ Z, S x
  | 0, q, D, Z, h, _, _ => by cases h
  | n + 1, [], D, Z, h, hn, hc => by
    unfold bfs at h
    simp only [Option.some.injEq] at h
    subst h
    exact ⟨hn, fun _ h => h, (fun _ h => by cases h), fun p hp x hx => (hc p hp x hx).resolve_right (by simp), fun S _ hS _ => hS⟩
  | n + 1, p :: q, D, Z, h, hn, hc => by
    unfold bfs at h
    by_cases hp : p ∈ D
    · simp only [if_pos hp] at h
      obtain ⟨h1, h2, h3, h4, h5⟩ := bfs_spec n q D Z h hn fun p' hp' x hx => by
        rcases hc p' hp' x hx with hd | hd
        · exact .inl hd
        · rcases List.mem_cons.1 hd with rfl | hd
          · exact .inl hp
          · exact .inr hd
      refine ⟨h1, h2, fun x hx => ?_, h4, fun S hq hd hs => h5 S (fun x hx => hq x (List.mem_cons_of_mem _ hx)) hd hs⟩
      rcases List.mem_cons.1 hx with rfl | hx
      · exact h2 _ hp
      · exact h3 x hx
    · simp only [if_neg hp] at h
      obtain ⟨h1, h2, h3, h4, h5⟩ := bfs_spec n (q ++ st p) (D ++ [p]) Z h (snoc_nodup hn hp) fun p' hp' x hx => by
        rcases List.mem_append.1 hp' with hd | hd
        · rcases hc p' hd x hx with hd | hd
          · exact .inl (List.mem_append_left _ hd)
          · rcases List.mem_cons.1 hd with rfl | hd
            · exact .inl (List.mem_append_right _ (by simp))
            · exact .inr (List.mem_append_left _ hd)
        · rw [List.mem_singleton] at hd; subst hd; exact .inr (List.mem_append_right _ hx)
      refine ⟨h1, fun x hx => h2 x (List.mem_append_left _ hx), fun x hx => ?_, h4, fun S hq hd hs => h5 S (fun x hx => ?_) (fun x hx => ?_) hs⟩
      · rcases List.mem_cons.1 hx with rfl | hx
        · exact h2 _ (List.mem_append_right _ (by simp))
        · exact h3 x (List.mem_append_left _ hx)
      · rcases List.mem_append.1 hx with hx | hx
        · exact hq x (List.mem_cons_of_mem _ hx)
        · exact hs p (hq p List.mem_cons_self) x hx
      · rcases List.mem_append.1 hx with hx | hx
        · exact hd x hx
        · rw [List.mem_singleton] at hx; subst hx; exact hq _ List.mem_cons_self

/-! ### The program -/
def stC (L : List Un) (p : Pa) : List Pa := match findU L p with | some u => u.Deps | none => []
theorem mset_keys (s : Pa) (x : Int) : ∀ m : List (Pa × Int), (mset s x m).map Prod.fst = if s ∈ m.map Prod.fst then m.map Prod.fst else m.map Prod.fst ++ [s]
  | [] => by simp [mset]
  | (k, y) :: r => by
    have ih := mset_keys s x r
    unfold mset
    by_cases e : k = s
    · subst e; simp
    · rw [if_neg e, List.map_cons, ih]
      have : (s ∈ ((k, y) :: r).map Prod.fst) ↔ s ∈ r.map Prod.fst := by
        rw [List.map_cons, List.mem_cons]
        exact ⟨fun h => h.resolve_left fun e' => e e'.symm, .inr⟩
      by_cases h : s ∈ r.map Prod.fst
      · rw [if_pos h, if_pos (this.2 h)]; rfl
      · rw [if_neg h, if_neg fun h' => h (this.1 h')]; rfl
/-- The program's marks. -/
structure MK (f : Pa) (m : List (Pa × Int)) (D : List Pa) : Prop where
  nd : (m.map Prod.fst).Nodup
  one : ∀ s, (mget s m).getD 0 = 1 ↔ s ∈ D
  keys : ∀ s, s ∈ m.map Prod.fst ↔ s = f ∨ s ∈ D
theorem MK.start (f : Pa) : MK f (mset f 2 []) [] := ⟨by simp [mset], fun s => by
  show (mget s [(f, (2 : Int))]).getD 0 = 1 ↔ s ∈ []
  by_cases e : f = s <;> simp [mget, e], fun s => by simp [mset]⟩
theorem MK.put {f : Pa} {m : List (Pa × Int)} {D : List Pa} (h : MK f m D) {p : Pa} (hp : p ∉ D) : MK f (mset p 1 m) (D ++ [p]) := by
  refine ⟨?_, fun s => ?_, fun s => ?_⟩
  · rw [mset_keys]
    split
    · exact h.nd
    · rename_i hn; exact snoc_nodup h.nd hn
  · rw [mget_mset]
    by_cases e : p = s
    · subst e; simp
    · rw [if_neg e, h.one s, List.mem_append, List.mem_singleton]
      exact ⟨.inl, fun h' => h'.resolve_right fun e' => e e'.symm⟩
  · rw [mset_keys, List.mem_append, List.mem_singleton, ← or_assoc, ← h.keys s]
    split
    · rename_i hn
      exact ⟨.inl, fun h' => h'.elim id fun e => by rw [e]; exact hn⟩
    · rw [List.mem_append, List.mem_singleton]
theorem clone_ok {x : List Pa} (h : x.length ≤ 100000) : slices_Clone_string x = .ok x := by
  unfold slices_Clone_string
  have hj : slices_Clone_string_j0 x = .ok x := by unfold slices_Clone_string_j0; rw [if_pos (by omega)]
  by_cases e : x = []
  · rw [if_pos e]
    subst e
    exact R.both_eq fun c => by cases c <;> first | rfl | exact hj
  · rw [if_neg e]; exact hj
theorem clos1_ok {u : Un} {b : Bool} (h : u.Deps.length ≤ 100000) : graph_Closure_1 u b = .ok u.Deps := by
  unfold graph_Closure_1
  rw [clone_ok h]; rfl
theorem cl0_ok : ∀ (n : Nat) (left out : List Pa) (k : Nat) (last : Option Pa), left.length = n → n < k → (out ++ left).Nodup → out.length + left.length ≤ 100000 → graph_reach_l0 k out left last = .ok (sortT (out ++ left))
  | n, left, out, k, last, hn, hk, hnd, hl => by
    obtain ⟨k, rfl⟩ : ∃ m, k = m + 1 := ⟨k - 1, by omega⟩
    rw [graph_reach_l0]
    by_cases e : left = []
    · subst e
      rw [if_pos rfl, if_pos (by simp at hl; omega), List.append_nil]
    · rw [if_neg e]
      have hpos := List.length_pos_iff.2 e
      refine R.all_eq hpos fun i hi => ?_
      have he : (left.eraseIdx i).length = left.length - 1 := by rw [List.length_eraseIdx, if_pos hi]
      have hp : (out ++ [left[i]] ++ left.eraseIdx i).Perm (out ++ left) := by
        rw [List.append_assoc]
        exact List.Perm.append_left _ (cons_erase hi)
      rw [if_pos (by simp only [List.length_singleton]; omega), getD_at hi]
      obtain ⟨n, rfl⟩ : ∃ m, n = m + 1 := ⟨n - 1, by omega⟩
      rw [cl0_ok n (left.eraseIdx i) (out ++ [left[i]]) k _ (by omega) (by omega) ((hp.nodup_iff).2 hnd) (by rw [he]; simp only [List.length_append, List.length_singleton]; omega)]
      rw [sort_eq ((hp.nodup_iff).2 hnd) hp]
theorem cl2_ok {L : List Un} {M : List (Pa × Un)} (hM : ∀ p, mget p M = findU L p) (hD : ∀ u ∈ L, u.Deps.length ≤ 30) (hP : ∀ u ∈ L, u.Public.length ≤ 30) {f : Pa} {U : List Pa} : ∀ (n k : Nat) (q D Z : List Pa) (m : List (Pa × Int)), bfs (stC L) n q D = some Z → n ≤ k → Meas (stC L) U q D → MK f m D →
    ∃ m', graph_reach_l2 M k q m = .ok m' ∧ MK f m' Z
  | 0, k, q, D, Z, m, hb, _, _, _ => by cases hb
  | n + 1, k, q, D, Z, m, hb, hk, hm, hmk => by
    obtain ⟨k, rfl⟩ : ∃ m, k = m + 1 := ⟨k - 1, by omega⟩
    cases q with
    | nil =>
      unfold bfs at hb
      simp only [Option.some.injEq] at hb
      subst hb
      exact ⟨m, by rw [graph_reach_l2, if_neg (by decide)], hmk⟩
    | cons p q =>
      have hml := hm.ql
      simp only [List.length_cons] at hml
      rw [graph_reach_l2, if_pos (by simp only [List.length_cons]; omega), if_pos (by simp only [List.length_cons]; omega), if_pos (by simp only [List.length_cons]; omega)]
      simp only [List.getD_cons_zero, List.drop_succ_cons, List.drop_zero]
      unfold bfs at hb
      by_cases hp : p ∈ D
      · simp only [if_pos hp] at hb
        rw [if_pos ((hmk.one p).2 hp)]
        exact cl2_ok hM hD hP n k q D Z m hb (by omega) hm.old hmk
      · simp only [if_neg hp] at hb
        rw [if_neg fun h => hp ((hmk.one p).1 h), hM p]
        obtain ⟨h1, h2, h3⟩ := hm.new hp
        cases hu : findU L p with
        | none =>
          rw [if_neg (by simp)]
          have e : stC L p = [] := by unfold stC; rw [hu]
          rw [e, List.append_nil] at hb h1
          exact cl2_ok hM hD hP n k q _ Z _ hb (by omega) h1 (hmk.put hp)
        | some u =>
          rw [if_pos (show (some u).isSome = true from rfl)]
          have hmem : u ∈ L := List.mem_of_find?_eq_some hu
          have hul := hD u hmem
          have e : stC L p = u.Deps := by unfold stC; rw [hu]
          rw [e] at hb h1
          have hql := h1.ql
          simp only [List.length_append] at hql
          rw [Option.getD_some, clos1_ok (by omega)]
          simp only [R.bind_ok]
          rw [if_pos (by omega)]
          exact cl2_ok hM hD hP n k _ _ Z _ hb (by omega) h1 (hmk.put hp)
/-- All that may be come to. -/
def Uni (L : List Un) (p : Pa) : List Pa := p :: L.flatMap (·.Deps)
theorem flat_len30 : ∀ {L : List Un}, (∀ u ∈ L, u.Deps.length ≤ 30) → (L.flatMap (·.Deps)).length ≤ 30 * L.length
  | [], _ => by simp
  | u :: L, h => by
    have h1 := h u List.mem_cons_self
    have h2 := flat_len30 (L := L) fun v hv => h v (List.mem_cons_of_mem _ hv)
    simp only [List.flatMap_cons, List.length_append, List.length_cons]
    omega
theorem dep_uni {L : List Un} {p q : Pa} {u : Un} (h : findU L q = some u) {x : Pa} (hx : x ∈ u.Deps) : x ∈ Uni L p :=
  List.mem_cons_of_mem _ (List.mem_flatMap.2 ⟨u, List.mem_of_find?_eq_some h, hx⟩)
theorem uni_len {L : List Un} {p : Pa} (hL : L.length ≤ 30) (hD : ∀ u ∈ L, u.Deps.length ≤ 30) : (Uni L p).length ≤ 1000 := by
  have := flat_len30 hD
  unfold Uni
  simp only [List.length_cons]
  omega
theorem stC_meas {L : List Un} {p : Pa} (hL : L.length ≤ 30) (hD : ∀ u ∈ L, u.Deps.length ≤ 30) {q : List Pa} (hq : ∀ x ∈ q, x ∈ Uni L p) (hl : q.length ≤ 30) : Meas (stC L) (Uni L p) q [] := by
  have h1 := uni_len (p := p) hL hD
  refine ⟨fun p' x hx => ?_, fun p' => ?_, hq, (fun _ h => by cases h), List.nodup_nil, h1, by simp only [List.length_nil]; omega⟩
  · unfold stC at hx
    split at hx
    · rename_i u hu; exact dep_uni hu hx
    · cases hx
  · unfold stC
    split
    · rename_i u hu; exact hD u (List.mem_of_find?_eq_some hu)
    · exact Nat.zero_le _
theorem creach_ok {L : List Un} {p : Pa} (hL : L.length ≤ 30) (hD : ∀ u ∈ L, u.Deps.length ≤ 30) (hP : ∀ u ∈ L, u.Public.length ≤ 30) : (findU L p = none ∧ graph_reach L p = .ok []) ∨
    ∃ u Z r, findU L p = some u ∧ bfs (stC L) 100000 u.Deps [] = some Z ∧ graph_reach L p = .ok r ∧ Asc r ∧ r.length ≤ 1000 ∧ ∀ q, q ∈ r ↔ q = p ∨ q ∈ Z := by
  obtain ⟨M, hM1, hM2⟩ := units_ok (L := L) (by omega)
  unfold graph_reach
  rw [hM1]
  simp only [R.sure, R.bind_ok]
  rw [hM2 p]
  cases hu : findU L p with
  | none => exact .inl ⟨rfl, by rw [if_neg (by simp)]⟩
  | some u =>
    rw [if_pos (show (some u).isSome = true from rfl), Option.getD_some]
    have hmem : u ∈ L := List.mem_of_find?_eq_some hu
    have hul := hD u hmem
    rw [clos1_ok (by omega)]
    simp only [R.bind_ok]
    have hme : Meas (stC L) (Uni L p) u.Deps [] := stC_meas hL hD  (fun x hx => dep_uni hu hx) hul
    have hun := hme.u
    obtain ⟨Z, hR⟩ := bfs_some 100000 u.Deps [] hme (by simp only [List.length_nil]; omega)
    obtain ⟨m', h1, h2⟩ := cl2_ok hM2 hD hP (f := p) 100000 Many u.Deps [] Z _ hR (by decide) hme (MK.start p)
    rw [h1]
    simp only [R.bind_ok]
    unfold graph_reach_j1
    have hR2 : ∀ x ∈ Z, x ∈ Uni L p := (bfs_spec 100000 u.Deps [] Z hR List.nodup_nil (fun _ h => by cases h)).2.2.2.2 (fun x => x ∈ Uni L p) (fun x hx => dep_uni hu hx) (fun _ h => by cases h) fun q _ x hx => hme.step q x hx
    have hkl : (m'.map Prod.fst).length ≤ 1000 := by
      refine Nat.le_trans (nodup_len h2.nd fun x hx => ?_) hun
      rcases (h2.keys x).1 hx with rfl | h
      · exact List.mem_cons_self
      · exact hR2 x h
    rw [cl0_ok _ _ [] Many none rfl (many_gt (by omega)) h2.nd (by simp only [List.length_nil]; omega), List.nil_append]
    exact .inr ⟨u, Z, _, rfl, hR, rfl, sort_asc h2.nd, by rw [(sort_perm _).length_eq]; exact hkl, fun q => by rw [sort_mem]; exact h2.keys q⟩

/-! ### The reference's closure -/
theorem refC_loop {L : List Un} (hL : L.length ≤ 30) (hD : ∀ u ∈ L, u.Deps.length ≤ 30) {U : List Pa} : ∀ (n k : Nat) (q D Z out : List Pa), bfs (stC L) n q D = some Z → n ≤ k → Meas (stC L) U q D → Asc out → (∀ x, x ∈ out ↔ x ∈ D) →
    ∃ r, glossaryref10_Closure_l1 L k out q = .ok r ∧ Asc r ∧ ∀ x, x ∈ r ↔ x ∈ Z
  | 0, k, q, D, Z, out, hb, _, _, _, _ => by cases hb
  | n + 1, k, q, D, Z, out, hb, hk, hm, ha, ho => by
    obtain ⟨k, rfl⟩ : ∃ m, k = m + 1 := ⟨k - 1, by omega⟩
    cases q with
    | nil =>
      unfold bfs at hb
      simp only [Option.some.injEq] at hb
      subst hb
      exact ⟨out, by rw [glossaryref10_Closure_l1, if_neg (by decide)], ha, ho⟩
    | cons p q =>
      have hml := hm.ql
      simp only [List.length_cons] at hml
      have hol := nodup_len ha.nodup fun x hx => hm.hd x ((ho x).1 hx)
      have hu1 := hm.u
      rw [glossaryref10_Closure_l1, if_pos (by simp only [List.length_cons]; omega), if_pos (by simp only [List.length_cons]; omega), if_pos (by simp only [List.length_cons]; omega)]
      simp only [List.getD_cons_zero, List.drop_succ_cons, List.drop_zero]
      rw [in_ok _ (by omega)]
      simp only [R.bind_ok]
      unfold bfs at hb
      by_cases hp : p ∈ D
      · simp only [if_pos hp] at hb
        rw [decide_eq_true ((ho p).2 hp), if_pos rfl]
        exact refC_loop hL hD n k q D Z out hb (by omega) hm.old ha ho
      · simp only [if_neg hp] at hb
        rw [decide_eq_false fun h => hp ((ho p).1 h), if_neg (by decide)]
        obtain ⟨h1, h2, h3⟩ := hm.new hp
        obtain ⟨out', e1, e2, e3⟩ := put_ok p (by omega : out.length ≤ 100000) ha
        rw [e1]
        simp only [R.bind_ok]
        have ho' : ∀ x, x ∈ out' ↔ x ∈ D ++ [p] := fun x => by rw [e3, ho x, List.mem_append, List.mem_singleton]
        rcases find_ok p (by omega : L.length ≤ 100000) with ⟨hf, hf2⟩ | ⟨u, j, hf, hf2, hj, hgt⟩
        · rw [hf2]
          simp only [R.bind_ok]
          rw [if_neg (by decide)]
          have e : stC L p = [] := by unfold stC; rw [hf]
          rw [e, List.append_nil] at hb h1
          exact refC_loop hL hD n k q _ Z out' hb (by omega) h1 e2 ho'
        · rw [hf2]
          simp only [R.bind_ok]
          have e : stC L p = u.Deps := by unfold stC; rw [hf]
          rw [e] at hb h1
          have hql := h1.ql
          simp only [List.length_append] at hql
          rw [if_pos (by omega), if_pos (by omega), hgt, if_pos (by omega)]
          exact refC_loop hL hD n k _ _ Z out' hb (by omega) h1 e2 ho'
theorem refC_ok {L : List Un} {p : Pa} (hL : L.length ≤ 30) (hD : ∀ u ∈ L, u.Deps.length ≤ 30) {u : Un} (hu : findU L p = some u) : ∃ Z r, bfs (stC L) 100000 [p] [] = some Z ∧ glossaryref10_Closure L p = .ok r ∧ Asc r ∧ ∀ x, x ∈ r ↔ x ∈ Z := by
  have hme : Meas (stC L) (Uni L p) [p] [] := stC_meas hL hD (fun x hx => by rw [List.mem_singleton] at hx; subst hx; exact List.mem_cons_self) (by simp)
  have hun := hme.u
  obtain ⟨Z, hR⟩ := bfs_some 100000 [p] [] hme (by simp only [List.length_nil, List.length_singleton]; omega)
  obtain ⟨r, h1, h2, h3⟩ := refC_loop hL hD 100000 Many [p] [] Z [] hR (by decide) hme List.Pairwise.nil (fun x => Iff.rfl)
  refine ⟨Z, r, hR, ?_, h2, h3⟩
  unfold glossaryref10_Closure
  rcases find_ok p (by omega : L.length ≤ 100000) with ⟨hf, hf2⟩ | ⟨u', j, hf, hf2, hj, hgt⟩
  · rw [hu] at hf; cases hf
  · rw [hf2]
    simp only [R.bind_ok]
    rw [if_neg (by omega), h1]
    rfl
theorem refC_none {L : List Un} {p : Pa} (hL : L.length ≤ 30) (hu : findU L p = none) : glossaryref10_Closure L p = .ok [] := by
  unfold glossaryref10_Closure
  rcases find_ok p (by omega : L.length ≤ 100000) with ⟨hf, hf2⟩ | ⟨u', j, hf, hf2, hj, hgt⟩
  · rw [hf2]
    simp only [R.bind_ok]
    rw [if_pos (by decide)]
  · rw [hu] at hf; cases hf
/-- From a path, or from its steps. -/
theorem bfs_first {st : Pa → List Pa} {p : Pa} {a b : Nat} {Z Z1 : List Pa} (h : bfs st a (st p) [] = some Z) (h' : bfs st b [p] [] = some Z1) (x : Pa) : x ∈ Z1 ↔ x = p ∨ x ∈ Z := by
  obtain ⟨_, _, h3, h4, h5⟩ := bfs_spec a (st p) [] Z h List.nodup_nil (fun _ h => by cases h)
  obtain ⟨_, _, k3, k4, k5⟩ := bfs_spec b [p] [] Z1 h' List.nodup_nil (fun _ h => by cases h)
  constructor
  · refine k5 (fun x => x = p ∨ x ∈ Z) (fun x hx => ?_) (fun _ h => by cases h) (fun q hq x hx => ?_) x
    · rw [List.mem_singleton] at hx; exact .inl hx
    · rcases hq with rfl | hq
      · exact .inr (h3 x hx)
      · exact .inr (h4 q hq x hx)
  · rintro (rfl | hx)
    · exact k3 _ (by simp)
    · exact h5 (fun x => x ∈ Z1) (fun x hx => k4 p (k3 p (by simp)) x hx) (fun _ h => by cases h) k4 x hx
theorem closures_law {L : List Un} {p : Pa} : glossarylaw10_GraphClosures L p = .ok true := by
  unfold glossarylaw10_GraphClosures
  rw [awake_ok]
  simp only [R.bind_ok, if_true]
  rcases few_ok L with hf | ⟨hf, hL, hDP⟩
  · rw [hf]; rfl
  rw [hf]
  simp only [R.bind_ok, if_true]
  have hD : ∀ u ∈ L, u.Deps.length ≤ 30 := fun u hu => (hDP u hu).1
  unfold graph_Closure
  rcases creach_ok (p := p) hL hD (fun u hu => (hDP u hu).2) with ⟨h1, h2⟩ | ⟨u, Z, r, h1, h2, h3, h4, h5, h6⟩
  · rw [h2, refC_none hL h1]
    simp only [R.bind_ok]
    rw [same_ok (by simp)]
    rfl
  · obtain ⟨Z1, r', k1, k2, k3, k4⟩ := refC_ok hL hD h1
    rw [h3, k2]
    have e : stC L p = u.Deps := by unfold stC; rw [h1]
    have er : r = r' := asc_ext h4 k3 fun q => by rw [h6, k4, bfs_first (st := stC L) (p := p) (by rw [e]; exact h2) k1]
    subst er
    simp only [R.bind_ok]
    rw [same_ok (by omega)]
    rfl
theorem graphClosures_law {P : Prop} (x0 : List S_api_Unit) (_ : P) (x1 : List UInt8) (_ : x1.length ≤ maxLen) : CA qprim 6 [.sl 3 (List.map S_api_Unit.enc x0), .str x1] [] fun r _ => r = .ret (.bool true) :=
  glossarylaw10_GraphClosures_call (KK := fun r => r = true) (X := fun _ => False) (by rw [closures_law]; exact rfl) (fun r h => by rw [h]) (fun v h => h.elim)
end Go.Proofs.Ytmaabgkgjknhpaa.Pv
