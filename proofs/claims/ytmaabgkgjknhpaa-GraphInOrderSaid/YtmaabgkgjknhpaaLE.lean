/- Law 4: what Order answers is what is reached, each behind its imports. -/
import Derived.Test.YtmaabgkgjknhpaaLD
import Derived.Test.YtmaabgkgjknhpaaG12
set_option linter.unusedVariables false
set_option linter.unusedSimpArgs false
set_option maxRecDepth 20000
namespace Go.Proofs.Ytmaabgkgjknhpaa.Pv
open Go Go.Proofs

theorem bl_nil (x : Pa) : Op.bytesLess x [] = false := by cases x <;> rfl
theorem bl_cons (a b : UInt8) (x y : Pa) : Op.bytesLess (a :: x) (b :: y) = true ↔ a < b ∨ (a = b ∧ Op.bytesLess x y = true) := by simp [Op.bytesLess]
theorem bl_irr : ∀ x : Pa, ¬ Op.bytesLess x x = true
  | [] => by rw [bl_nil]; decide
  | a :: x => by
    rw [bl_cons]
    rintro (h | ⟨_, h⟩)
    · exact absurd h (UInt8.lt_irrefl a)
    · exact bl_irr x h
theorem bl_trans : ∀ {x y z : Pa}, Op.bytesLess x y = true → Op.bytesLess y z = true → Op.bytesLess x z = true
  | _, [], _, h, _ => by rw [bl_nil] at h; cases h
  | _, _ :: _, [], _, h => by rw [bl_nil] at h; cases h
  | [], _ :: _, _ :: _, _, _ => rfl
  | a :: x, b :: y, c :: z, h1, h2 => by
    rw [bl_cons] at *
    rcases h1 with h1 | ⟨rfl, h1⟩
    · rcases h2 with h2 | ⟨rfl, h2⟩
      · exact .inl (UInt8.lt_trans h1 h2)
      · exact .inl h1
    · rcases h2 with h2 | ⟨rfl, h2⟩
      · exact .inl h2
      · exact .inr ⟨rfl, bl_trans h1 h2⟩
theorem bl_tri : ∀ {x y : Pa}, ¬ Op.bytesLess x y = true → x ≠ y → Op.bytesLess y x = true
  | [], [], _, h => absurd rfl h
  | _ :: _, [], _, _ => rfl
  | [], _ :: _, h, _ => absurd rfl h
  | a :: x, b :: y, h1, h2 => by
    rw [bl_cons] at *
    have h : a.toNat < b.toNat ∨ a.toNat = b.toNat ∨ b.toNat < a.toNat := by omega
    rcases h with h | h | h
    · exact absurd (.inl (UInt8.lt_iff_toNat_lt.2 h)) h1
    · have e := UInt8.toNat_inj.1 h
      subst e
      exact .inr ⟨rfl, bl_tri (fun h => h1 (.inr ⟨rfl, h⟩)) fun e => h2 (by rw [e])⟩
    · exact .inl (UInt8.lt_iff_toNat_lt.2 h)
/-- In order, each once. -/
def Asc (l : List Pa) : Prop := l.Pairwise fun a b => Op.bytesLess a b = true
theorem Asc.nodup {l : List Pa} (h : Asc l) : l.Nodup := by
  unfold List.Nodup
  refine List.Pairwise.imp (fun {a b} h => ?_) h
  intro e
  rw [← e] at h
  exact bl_irr a h
theorem put_loop {x : List Pa} (s : Pa) (hx : x.length ≤ 100000) : ∀ (d k i : Nat), i + d = x.length → d < k →
    ∃ n, i ≤ n ∧ n ≤ x.length ∧ glossaryref10_Put_l1 x s k (i : Int) = .ok ((n : Nat) : Int) ∧ (∀ j (h : j < x.length), i ≤ j → j < n → Op.bytesLess x[j] s = true) ∧ ∀ h : n < x.length, ¬ Op.bytesLess x[n] s = true
  | 0, k, i, hi, hk => by
    obtain ⟨k, rfl⟩ : ∃ m, k = m + 1 := ⟨k - 1, by omega⟩
    refine ⟨i, Nat.le_refl _, by omega, ?_, fun j _ h1 h2 => by omega, fun h => by omega⟩
    rw [glossaryref10_Put_l1, if_neg (by omega)]
    rfl
  | d + 1, k, i, hi, hk => by
    obtain ⟨k, rfl⟩ : ∃ m, k = m + 1 := ⟨k - 1, by omega⟩
    have hlt : i < x.length := by omega
    rw [glossaryref10_Put_l1, if_pos (by omega), if_pos (by omega), gt_at hlt, next64 (by omega)]
    simp only [R.bind_ok]
    by_cases h : Op.bytesLess x[i] s = true
    · rw [if_pos h]
      obtain ⟨n, h1, h2, h3, h4, h5⟩ := put_loop s hx d k (i + 1) (by omega) (by omega)
      refine ⟨n, by omega, h2, h3, fun j hj h6 h7 => ?_, h5⟩
      by_cases e : i = j
      · subst e; exact h
      · exact h4 j hj (by omega) h7
    · rw [if_neg h]
      exact ⟨i, Nat.le_refl _, by omega, rfl, fun j _ h1 h2 => by omega, fun _ => h⟩
theorem put_ok {l : List Pa} (s : Pa) (hl : l.length ≤ 100000) (ha : Asc l) : ∃ l', glossaryref10_Put l s = .ok l' ∧ Asc l' ∧ ∀ q, q ∈ l' ↔ q ∈ l ∨ q = s := by
  obtain ⟨n, _, hn, h1, h2, h3⟩ := put_loop s hl l.length Many 0 (by omega) (many_gt (by omega))
  rw [show ((0 : Nat) : Int) = 0 from rfl] at h1
  unfold glossaryref10_Put
  rw [h1]
  simp only [R.bind_ok]
  unfold glossaryref10_Put_j0
  have hrest : (∀ h : n < l.length, l[n] ≠ s) → ∃ l', (if 0 ≤ (n : Int) ∧ (n : Int) ≤ (List.length l : Int) then (if 0 ≤ (n : Int) ∧ (n : Int) ≤ (List.length l : Int) then (if List.length ([s]) + List.length (List.drop (Int.toNat (n : Int)) l) ≤ 1000000000 then (if (¬ (([s]) ++ (List.drop (Int.toNat (n : Int)) l)) = []) ∧ List.length (List.take (Int.toNat (n : Int)) l) + List.length (([s]) ++ (List.drop (Int.toNat (n : Int)) l)) ≤ 1000000000 then (R.ok ((List.take (Int.toNat (n : Int)) l) ++ (([s]) ++ (List.drop (Int.toNat (n : Int)) l)))) else R.stuck) else R.stuck) else R.stuck) else R.stuck) = .ok l' ∧ Asc l' ∧ ∀ q, q ∈ l' ↔ q ∈ l ∨ q = s := by
    intro hne
    rw [Int.toNat_natCast, if_pos (by omega), if_pos (by omega), if_pos (by simp only [List.length_singleton, List.length_drop]; omega), if_pos ⟨by simp, by simp only [List.length_append, List.length_singleton, List.length_drop, List.length_take]; omega⟩]
    refine ⟨_, rfl, ?_, fun q => ?_⟩
    · have hs : Asc (l.take n ++ l.drop n) := by rw [List.take_append_drop]; exact ha
      unfold Asc at hs ⊢
      rw [List.pairwise_append] at hs
      have hb : ∀ b ∈ l.drop n, Op.bytesLess s b = true := by
        by_cases h : n < l.length
        · have h4 := bl_tri (h3 h) (hne h)
          have h5 := hs.2.1
          rw [drop_at h, List.pairwise_cons] at h5
          rw [drop_at h]
          intro b hb
          rcases List.mem_cons.1 hb with rfl | hb
          · exact h4
          · exact bl_trans h4 (h5.1 b hb)
        · rw [List.drop_eq_nil_of_le (by omega)]
          intro b hb
          cases hb
      have hf : ∀ a ∈ l.take n, Op.bytesLess a s = true := fun a ha => by
        obtain ⟨j, hj, rfl⟩ := List.mem_iff_getElem.1 ha
        rw [List.length_take] at hj
        rw [List.getElem_take]
        exact h2 j (by omega) (Nat.zero_le _) (by omega)
      rw [List.pairwise_append]
      refine ⟨hs.1, ?_, fun a ha b hb' => ?_⟩
      · rw [List.singleton_append, List.pairwise_cons]
        exact ⟨hb, hs.2.1⟩
      · rw [List.singleton_append] at hb'
        rcases List.mem_cons.1 hb' with rfl | hb'
        · exact hf a ha
        · exact hs.2.2 a ha b hb'
    · have : q ∈ l ↔ q ∈ l.take n ∨ q ∈ l.drop n := by rw [← List.mem_append, List.take_append_drop]
      rw [this]
      simp only [List.mem_append, List.mem_singleton]
      constructor
      · rintro (h | h | h)
        · exact .inl (.inl h)
        · exact .inr h
        · exact .inl (.inr h)
      · rintro ((h | h) | h)
        · exact .inl h
        · exact .inr (.inr h)
        · exact .inr (.inl h)
  by_cases h : n < l.length
  · rw [if_pos (by omega), if_pos (by omega), gt_at h]
    simp only [R.bind_ok]
    by_cases e : l[n] = s
    · rw [decide_eq_true e]
      refine ⟨l, rfl, ha, fun q => ⟨.inl, ?_⟩⟩
      rintro (h | rfl)
      · exact h
      · rw [← e]; exact List.getElem_mem _
    · rw [decide_eq_false e]
      exact hrest fun _ => e
  · rw [if_neg (by omega)]
    simp only [R.bind_ok]
    exact hrest fun h' => absurd h' h
/-- What is asked for by one of them is one of them. -/
def Clos (L : List Un) (r : List Pa) : Prop := ∀ q ∈ r, ∀ u, findU L q = some u → ∀ d ∈ u.Deps, d ∈ r
def Full (L : List Un) (o : List Pa) : Prop := ∀ p ∈ o, ∃ u, findU L p = some u ∧ ∀ d ∈ u.Deps, d ∈ o
theorem closure_loop {L : List Un} (hL : L.length ≤ 100) (hD : ∀ u ∈ L, u.Deps.length ≤ 100) {o : List Pa} (ho : Full L o) (hol : o.length ≤ 100) :
    ∀ (n k : Nat) (out queue : List Pa), (o.length - out.length) * 200 + queue.length ≤ n → n ≤ 100000 → n < k → Asc out → (∀ q ∈ out, q ∈ o) → (∀ q ∈ queue, q ∈ o) → (∀ q ∈ out, ∀ u, findU L q = some u → ∀ d ∈ u.Deps, d ∈ out ∨ d ∈ queue) →
      ∃ r, glossaryref10_Closure_l1 L k out queue = .ok r ∧ Asc r ∧ (∀ q ∈ r, q ∈ o) ∧ (∀ q ∈ out, q ∈ r) ∧ (∀ q ∈ queue, q ∈ r) ∧ Clos L r := by
  intro n
  induction n with
  | zero =>
    intro k out queue hn hn2 hk ha hs hq hc
    obtain ⟨k, rfl⟩ : ∃ m, k = m + 1 := ⟨k - 1, by omega⟩
    have : queue = [] := List.length_eq_zero_iff.1 (by omega)
    subst this
    refine ⟨out, by rw [glossaryref10_Closure_l1, if_neg (by decide)], ha, hs, fun _ h => h, (fun _ h => by cases h), fun q hq u hu d hd => ?_⟩
    rcases hc q hq u hu d hd with h | h
    · exact h
    · cases h
  | succ n ih =>
    intro k out queue hn hn2 hk ha hs hq hc
    obtain ⟨k, rfl⟩ : ∃ m, k = m + 1 := ⟨k - 1, by omega⟩
    cases queue with
    | nil =>
      refine ⟨out, by rw [glossaryref10_Closure_l1, if_neg (by decide)], ha, hs, fun _ h => h, (fun _ h => by cases h), fun q hq u hu d hd => ?_⟩
      rcases hc q hq u hu d hd with h | h
      · exact h
      · cases h
    | cons p rest =>
      have hlen := nodup_len ha.nodup hs
      simp only [List.length_cons] at hn
      rw [glossaryref10_Closure_l1, if_pos (by simp only [List.length_cons]; omega), if_pos (by simp only [List.length_cons]; omega), if_pos (by simp only [List.length_cons]; omega)]
      simp only [List.getD_cons_zero, List.drop_succ_cons, List.drop_zero]
      rw [in_ok _ (by omega)]
      simp only [R.bind_ok]
      have hpo := hq p List.mem_cons_self
      have hqr : ∀ q ∈ rest, q ∈ o := fun q h => hq q (List.mem_cons_of_mem _ h)
      by_cases hp : p ∈ out
      · rw [decide_eq_true hp, if_pos rfl]
        obtain ⟨r, h1, h2, h3, h4, h5, h6⟩ := ih k out rest (by omega) (by omega) (by omega) ha hs hqr fun q hq u hu d hd => by
          rcases hc q hq u hu d hd with h | h
          · exact .inl h
          · rcases List.mem_cons.1 h with rfl | h
            · exact .inl hp
            · exact .inr h
        refine ⟨r, h1, h2, h3, h4, fun q hq => ?_, h6⟩
        rcases List.mem_cons.1 hq with rfl | hq
        · exact h4 _ hp
        · exact h5 q hq
      · rw [decide_eq_false hp, if_neg (by decide)]
        obtain ⟨out', e1, e2, e3⟩ := put_ok p (by omega : out.length ≤ 100000) ha
        rw [e1]
        simp only [R.bind_ok]
        obtain ⟨u, hu, hud⟩ := ho p hpo
        rcases find_ok p (by omega : L.length ≤ 100000) with ⟨hf, _⟩ | ⟨u', j, hf, hfj, hj, hgt⟩
        · rw [hu] at hf; cases hf
        rw [hu] at hf
        obtain rfl := Option.some.inj hf
        have hul := hD u (List.mem_of_find?_eq_some hu)
        rw [hfj]
        simp only [R.bind_ok]
        rw [if_pos (by omega), if_pos (by omega), hgt, if_pos (by omega)]
        have hs' : ∀ q ∈ out', q ∈ o := fun q hq => by
          rcases (e3 q).1 hq with h | rfl
          · exact hs q h
          · exact hpo
        have l1 := nodup_len e2.nodup hs'
        have l2 := nodup_len (l := p :: out) (m := out') (List.nodup_cons.2 ⟨hp, ha.nodup⟩) fun q hq => (e3 q).2 (by
          rcases List.mem_cons.1 hq with rfl | h
          · exact .inr rfl
          · exact .inl h)
        simp only [List.length_cons] at l2
        obtain ⟨r, h1, h2, h3, h4, h5, h6⟩ := ih k out' (rest ++ u.Deps) (by
          simp only [List.length_append]
          have : (o.length - out'.length) * 200 + 200 ≤ (o.length - out.length) * 200 := by omega
          omega) (by omega) (by omega) e2 hs' (fun q hq => by
            rcases List.mem_append.1 hq with h | h
            · exact hqr q h
            · exact hud q h) fun q hq u1 hu1 d hd => by
          rcases (e3 q).1 hq with h | rfl
          · rcases hc q h u1 hu1 d hd with h | h
            · exact .inl ((e3 d).2 (.inl h))
            · rcases List.mem_cons.1 h with rfl | h
              · exact .inl ((e3 _).2 (.inr rfl))
              · exact .inr (List.mem_append_left _ h)
          · rw [hu] at hu1
            obtain rfl := Option.some.inj hu1
            exact .inr (List.mem_append_right _ hd)
        refine ⟨r, h1, h2, h3, fun q hq => h4 q ((e3 q).2 (.inl hq)), fun q hq => ?_, h6⟩
        rcases List.mem_cons.1 hq with rfl | hq
        · exact h4 _ ((e3 _).2 (.inr rfl))
        · exact h5 q (List.mem_append_left _ hq)
theorem closure_ok {L : List Un} (hL : L.length ≤ 100) (hD : ∀ u ∈ L, u.Deps.length ≤ 100) {o : List Pa} (ho : Full L o) (hol : o.length ≤ 100) {p : Pa} (hp : p ∈ o) :
    ∃ r, glossaryref10_Closure L p = .ok r ∧ Asc r ∧ (∀ q ∈ r, q ∈ o) ∧ p ∈ r ∧ Clos L r := by
  obtain ⟨u, hu, hud⟩ := ho p hp
  unfold glossaryref10_Closure
  rcases find_ok p (by omega : L.length ≤ 100000) with ⟨hf, _⟩ | ⟨u', j, hf, hfj, hj, hgt⟩
  · rw [hu] at hf; cases hf
  rw [hfj]
  simp only [R.bind_ok]
  rw [if_neg (by omega)]
  obtain ⟨r, h1, h2, h3, h4, h5, h6⟩ := closure_loop hL hD ho hol ((o.length - 0) * 200 + 1) Many [] [p] (by simp) (by omega) (many_gt (by omega)) List.Pairwise.nil (fun _ h => by cases h) (fun q hq => by
    rw [List.mem_singleton] at hq
    subst hq
    exact hp) (fun _ h => by cases h)
  rw [h1]
  exact ⟨r, rfl, h2, h3, h5 p (by simp), h6⟩
theorem puts_loop {r o : List Pa} (hr : r.length ≤ 1000) (hro : ∀ q ∈ r, q ∈ o) (hol : o.length ≤ 100) : ∀ (d k i : Nat) (x : List Pa), i + d = r.length → d < k → Asc x → (∀ q ∈ x, q ∈ o) →
    ∃ x', glossarylaw10_GraphInOrder_l7 r k x (i : Int) = .ok x' ∧ Asc x' ∧ ∀ q, q ∈ x' ↔ q ∈ x ∨ q ∈ r.drop i
  | 0, k, i, x, hi, hk, ha, hs => by
    obtain ⟨k, rfl⟩ : ∃ m, k = m + 1 := ⟨k - 1, by omega⟩
    refine ⟨x, by rw [glossarylaw10_GraphInOrder_l7, if_neg (by omega)], ha, fun q => ?_⟩
    rw [List.drop_eq_nil_of_le (by omega)]
    simp
  | d + 1, k, i, x, hi, hk, ha, hs => by
    obtain ⟨k, rfl⟩ : ∃ m, k = m + 1 := ⟨k - 1, by omega⟩
    have hlt : i < r.length := by omega
    have hlen := nodup_len ha.nodup hs
    rw [glossarylaw10_GraphInOrder_l7, if_pos (by omega), if_pos (by omega), gt_at hlt, next64 (by omega)]
    obtain ⟨x1, e1, e2, e3⟩ := put_ok r[i] (by omega : x.length ≤ 100000) ha
    rw [e1]
    simp only [R.bind_ok]
    obtain ⟨x', h1, h2, h3⟩ := puts_loop hr hro hol d k (i + 1) x1 (by omega) (by omega) e2 fun q hq => by
      rcases (e3 q).1 hq with h | rfl
      · exact hs q h
      · exact hro _ (List.getElem_mem hlt)
    refine ⟨x', h1, h2, fun q => ?_⟩
    rw [h3 q, e3 q, drop_at hlt, List.mem_cons, or_assoc]
theorem want_loop {L : List Un} (hL : L.length ≤ 100) (hD : ∀ u ∈ L, u.Deps.length ≤ 100) {o asked : List Pa} (ho : Full L o) (hol : o.length ≤ 100) (hao : ∀ q ∈ asked, q ∈ o) (hal : asked.length ≤ 1000) :
    ∀ (d k i : Nat) (x : List Pa), i + d = asked.length → d < k → Asc x → (∀ q ∈ x, q ∈ o) → Clos L x →
      ∃ x', glossarylaw10_GraphInOrder_l5 L asked k x (i : Int) = .ok x' ∧ Asc x' ∧ (∀ q ∈ x', q ∈ o) ∧ Clos L x' ∧ (∀ q ∈ x, q ∈ x') ∧ ∀ q ∈ asked.drop i, q ∈ x'
  | 0, k, i, x, hi, hk, ha, hs, hc => by
    obtain ⟨k, rfl⟩ : ∃ m, k = m + 1 := ⟨k - 1, by omega⟩
    refine ⟨x, by rw [glossarylaw10_GraphInOrder_l5, if_neg (by omega)], ha, hs, hc, fun _ h => h, ?_⟩
    rw [List.drop_eq_nil_of_le (by omega)]
    intro q hq
    cases hq
  | d + 1, k, i, x, hi, hk, ha, hs, hc => by
    obtain ⟨k, rfl⟩ : ∃ m, k = m + 1 := ⟨k - 1, by omega⟩
    have hlt : i < asked.length := by omega
    rw [glossarylaw10_GraphInOrder_l5, if_pos (by omega), if_pos (by omega), gt_at hlt]
    obtain ⟨r, r1, r2, r3, r4, r5⟩ := closure_ok hL hD ho hol (hao _ (List.getElem_mem hlt))
    rw [r1]
    simp only [R.bind_ok]
    have hrl := nodup_len r2.nodup r3
    obtain ⟨x1, e1, e2, e3⟩ := puts_loop (by omega) r3 hol r.length Many 0 x (by omega) (many_gt (by omega)) ha hs
    rw [show ((0 : Nat) : Int) = 0 from rfl] at e1
    rw [List.drop_zero] at e3
    rw [e1]
    simp only [R.bind_ok]
    unfold glossarylaw10_GraphInOrder_j6
    rw [next64 (by omega)]
    obtain ⟨x', h1, h2, h3, h4, h5, h6⟩ := want_loop hL hD ho hol hao hal d k (i + 1) x1 (by omega) (by omega) e2 (fun q hq => by
      rcases (e3 q).1 hq with h | h
      · exact hs q h
      · exact r3 q h) fun q hq u hu d hd => by
      rcases (e3 q).1 hq with h | h
      · exact (e3 d).2 (.inl (hc q h u hu d hd))
      · exact (e3 d).2 (.inr (r5 q h u hu d hd))
    refine ⟨x', h1, h2, h3, h4, fun q hq => h5 q ((e3 q).2 (.inl hq)), fun q hq => ?_⟩
    rw [drop_at hlt] at hq
    rcases List.mem_cons.1 hq with rfl | hq
    · exact h5 _ ((e3 _).2 (.inr r4))
    · exact h6 q hq
theorem Ord.at {L : List Un} : ∀ {o : List Pa}, Ord L o → ∀ (i : Nat) (h : i < o.length), ∃ u, findU L o[i] = some u ∧ ∀ d ∈ u.Deps, d ∈ o.take i := by
  intro o ho
  induction ho with
  | nil => intro i h; cases h
  | @snoc o p u ho hu hn hm ih =>
    intro i h
    by_cases hi : i < o.length
    · obtain ⟨u', h1, h2⟩ := ih i hi
      refine ⟨u', by rw [List.getElem_append_left hi]; exact h1, fun d hd => ?_⟩
      rw [List.take_append_of_le_length (by omega)]
      exact h2 d hd
    · have e : i = o.length := by
        simp only [List.length_append, List.length_singleton] at h
        omega
      subst e
      refine ⟨u, by simpa using hu, fun d hd => ?_⟩
      rw [List.take_left']
      · exact hm d hd
      · rfl
theorem Ord.full {L : List Un} {o : List Pa} (h : Ord L o) : Full L o := fun p hp => by
  obtain ⟨i, hi, rfl⟩ := List.mem_iff_getElem.1 hp
  obtain ⟨u, h1, h2⟩ := h.at i hi
  exact ⟨u, h1, fun d hd => List.mem_of_mem_take (h2 d hd)⟩
theorem fold_sub {C : List Pa} {f : List Pa → Pa → Option Ans} (hf : ∀ out d out', d ∈ C → (∀ q ∈ out, q ∈ C) → f out d = some (.ok out') → ∀ q ∈ out', q ∈ C) :
    ∀ (ds out out' : List Pa), (∀ d ∈ ds, d ∈ C) → (∀ q ∈ out, q ∈ C) → foldS f out ds = some (.ok out') → ∀ q ∈ out', q ∈ C
  | [], out, out', hd, ho, h => by
    simp only [foldS, Option.some.injEq, Except.ok.injEq] at h
    subst h
    exact ho
  | d :: ds, out, out', hd, ho, h => by
    unfold foldS at h
    split at h
    · rename_i o1 h1
      exact fold_sub hf ds o1 out' (fun x hx => hd x (List.mem_cons_of_mem _ hx)) (hf _ _ _ (hd d List.mem_cons_self) ho h1) h
    · rename_i hne
      rw [h] at hne
      exact absurd rfl (hne _)
theorem come_sub {L : List Un} {C : List Pa} (hC : Clos L C) : ∀ (n : Nat) (way out : List Pa) (p : Pa) (out' : List Pa), p ∈ C → (∀ q ∈ out, q ∈ C) → comeS L n out way p = some (.ok out') → ∀ q ∈ out', q ∈ C
  | 0, way, out, p, out', hp, ho, h => by cases h
  | n + 1, way, out, p, out', hp, ho, h => by
    unfold comeS at h
    split at h
    · simp only [Option.some.injEq, Except.ok.injEq] at h
      subst h
      exact ho
    · split at h
      · cases h
      · split at h
        · cases h
        · rename_i u hu
          split at h
          · split at h
            · rename_i o1 h1
              simp only [Option.some.injEq, Except.ok.injEq] at h
              subst h
              have := fold_sub (C := C) (fun out d out' => come_sub hC n (way ++ [p]) out d out') u.Deps out o1 (hC p hp u hu) ho h1
              intro q hq
              rcases List.mem_append.1 hq with h | h
              · exact this q h
              · rw [List.mem_singleton] at h
                subst h
                exact hp
            · rename_i hne
              rw [h] at hne
              exact absurd rfl (hne _)
          · cases h
theorem deps_loop {L : List Un} {r : Nat} {i0 : Nat} {x o : List Pa} {z : Pa × Int} (hx : (gt L (r : Int) : Un).Deps = x) (hl : x.length ≤ 1000) (hol : o.length ≤ 100) (hi0 : i0 ≤ o.length) (hm : ∀ d ∈ x, d ∈ o.take i0) : ∀ (d k i : Nat), i + d = x.length → d < k →
    glossarylaw10_GraphInOrder_l3 (o, z) (r : Int) L (i0 : Int) k (i : Int) = .ok (.inl ())
  | 0, k, i, hi, hk => by
    obtain ⟨k, rfl⟩ : ∃ m, k = m + 1 := ⟨k - 1, by omega⟩
    rw [glossarylaw10_GraphInOrder_l3, hx, if_neg (by omega)]
  | d + 1, k, i, hi, hk => by
    obtain ⟨k, rfl⟩ : ∃ m, k = m + 1 := ⟨k - 1, by omega⟩
    have hlt : i < x.length := by omega
    rw [glossarylaw10_GraphInOrder_l3, hx, if_pos (by omega), if_pos (by omega), if_pos ⟨by omega, by show _ ≤ (List.length o : Int); omega⟩, gt_at hlt, Int.toNat_natCast]
    show (R.bind (glossaryref10_In (List.take i0 o) x[i]) _) = _
    rw [in_ok _ (by rw [List.length_take]; omega), decide_eq_true (hm _ (List.getElem_mem hlt)), next64 (by omega)]
    simp only [R.bind_ok, if_true]
    exact deps_loop hx hl hol hi0 hm d k (i + 1) (by omega) (by omega)
theorem inorder_loop {L : List Un} (hL : L.length ≤ 100) (hD : ∀ u ∈ L, u.Deps.length ≤ 100) {o w : List Pa} {z : Pa × Int} (ho : Ord L o) (hol : o.length ≤ 100) (hwl : w.length ≤ 100) (hw : ∀ q ∈ o, q ∈ w) : ∀ (d k i : Nat), i + d = o.length → d < k →
    glossarylaw10_GraphInOrder_l1 (o, z) L w k (i : Int) = .ok (.inl ())
  | 0, k, i, hi, hk => by
    obtain ⟨k, rfl⟩ : ∃ m, k = m + 1 := ⟨k - 1, by omega⟩
    rw [glossarylaw10_GraphInOrder_l1, if_neg (by show ¬ _ < (List.length o : Int); omega)]
  | d + 1, k, i, hi, hk => by
    obtain ⟨k, rfl⟩ : ∃ m, k = m + 1 := ⟨k - 1, by omega⟩
    have hlt : i < o.length := by omega
    obtain ⟨u, hu, hud⟩ := ho.at i hlt
    rw [glossarylaw10_GraphInOrder_l1, if_pos (by show _ < (List.length o : Int); omega), if_pos ⟨by omega, by show _ < (List.length o : Int); omega⟩]
    simp only []
    rw [gt_at hlt]
    rcases find_ok o[i] (by omega : L.length ≤ 100000) with ⟨hf, _⟩ | ⟨u', j, hf, hfj, hj, hgt⟩
    · rw [hu] at hf; cases hf
    rw [hu] at hf
    obtain rfl := Option.some.inj hf
    have hul := hD u (List.mem_of_find?_eq_some hu)
    rw [hfj]
    simp only [R.bind_ok]
    rw [if_neg (by omega), in_ok _ (by omega), decide_eq_true (hw _ (List.getElem_mem hlt))]
    simp only [R.bind_ok, Bool.not_true, Bool.false_eq_true, if_false]
    have h3 := deps_loop (z := z) (i0 := i) (o := o) (by rw [hgt] : (gt L (j : Int) : Un).Deps = u.Deps) (by omega) hol (by omega) hud u.Deps.length Many 0 (by omega) (many_gt (by omega))
    rw [show ((0 : Nat) : Int) = 0 from rfl] at h3
    rw [if_pos (by omega), h3]
    simp only [R.bind_ok]
    unfold glossarylaw10_GraphInOrder_j2
    rw [next64 (by omega)]
    exact inorder_loop hL hD ho hol hwl hw d k (i + 1) (by omega) (by omega)
theorem inorder_law {L : List Un} {asked : List Pa} : glossarylaw10_GraphInOrder L asked = .ok true := by
  unfold glossarylaw10_GraphInOrder
  rw [awake_ok]
  simp only [R.bind_ok, if_true]
  rcases few_ok L with h | ⟨h, hL, hD⟩
  · rw [h]; rfl
  rw [h]
  simp only [R.bind_ok, if_true]
  by_cases ha : (30 : Int) < (asked.length : Int)
  · rw [decide_eq_true ha]; rfl
  rw [decide_eq_false ha]
  simp only [Bool.false_eq_true, if_false]
  obtain ⟨a, h⟩ := Option.isSome_iff_exists.1 (order_some L asked)
  have hD' : ∀ u ∈ L, u.Deps.length ≤ 100 := fun u hu => by have := hD u hu; omega
  rw [order_prog (by omega) hD' (by omega) h]
  simp only [R.bind_ok]
  cases a with
  | error z =>
    obtain ⟨q, e⟩ := z
    have he : e ≠ 0 := fold_err (fun out d q e h => come_err L _ [] out d q e h) asked [] q e h
    show (if e = 0 then _ else _) = _
    rw [if_neg he]
    rfl
  | ok o =>
    have hol : o.length ≤ L.length := order_len h
    have hg := fold_good (f := fun o d => comeS L (L.length + 1) o [] d) (way := []) (fun out d out' => come_good L _ [] out d out') asked [] o (good_nil L) h
    have hord : Ord L o := fold_ord (way := []) (fun out d out' => come_ord L _ [] out d out') (fun out d out' hg h => (come_good L _ [] out d out' hg h).1) asked [] o (good_nil L) .nil h
    have hnd : o.Nodup := by
      have := hg.1.1
      rwa [List.append_nil] at this
    show (if (0 : Int) = 0 then _ else _) = _
    rw [if_pos rfl]
    obtain ⟨w, h1, h2, h3, h4, _, h6⟩ := want_loop (by omega) hD' hord.full (by omega) hg.2.2 (by omega) asked.length Many 0 [] (by omega) (many_gt (by omega)) List.Pairwise.nil (fun _ h => by cases h) (fun _ h => by cases h)
    rw [show ((0 : Nat) : Int) = 0 from rfl] at h1
    rw [List.drop_zero] at h6
    rw [h1]
    simp only [R.bind_ok]
    have hsub : ∀ q ∈ o, q ∈ w := fold_sub (C := w) (fun out d out' => come_sub h4 _ [] out d out') asked [] o h6 (fun _ h => by cases h) h
    have l1 := nodup_len h2.nodup h3
    have l2 := nodup_len hnd hsub
    unfold glossarylaw10_GraphInOrder_j4
    have hlp := inorder_loop (z := ([], 0)) (by omega) hD' hord (by omega) (by omega : w.length ≤ 100) hsub o.length Many 0 (by omega) (many_gt (by omega))
    rw [show ((0 : Nat) : Int) = 0 from rfl] at hlp
    show (R.bind (glossarylaw10_GraphInOrder_l1 (o, [], 0) L w Many 0) _) = _
    rw [hlp]
    simp only [R.bind_ok]
    unfold glossarylaw10_GraphInOrder_j0
    show R.ok (decide ((List.length o : Int) = (List.length w : Int))) = _
    rw [decide_eq_true (by omega)]
theorem graphInOrder_law {P Q : Prop} (x0 : List S_api_Unit) (_ : P) (x1 : List (List UInt8)) (_ : Q) : CA qprim 4 [.sl 3 (List.map S_api_Unit.enc x0), .sl 1 (List.map V.str x1)] [] fun r _ => r = .ret (.bool true) :=
  glossarylaw10_GraphInOrder_call (KK := fun r => r = true) (X := fun _ => False) (by rw [inorder_law]; rfl) (fun r hr => by rw [hr]) (fun _ h => h.elim)
end Go.Proofs.Ytmaabgkgjknhpaa.Pv
