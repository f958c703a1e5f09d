/- What a file sees: laws 7 and 8. -/
import Derived.Test.YtmaabgkgjknhpaaLR
import Derived.Test.YtmaabgkgjknhpaaG9
import Derived.Test.YtmaabgkgjknhpaaG10
set_option linter.unusedVariables false
set_option linter.unusedSimpArgs false
set_option maxRecDepth 20000
namespace Go.Proofs.Ytmaabgkgjknhpaa.Pv
open Go Go.Proofs

/-- What a file hands on. -/
def visF (u : Un) (l : List Int) : List Pa := l.filterMap fun n => if 0 ≤ n ∧ n < (u.Deps.length : Int) then some (gt u.Deps n) else none
def visU (u : Un) : List Pa := visF u u.Public
def stV (L : List Un) (p : Pa) : List Pa := match findU L p with | some u => visU u | none => []
theorem visF_len (u : Un) (l : List Int) : (visF u l).length ≤ l.length := List.length_filterMap_le _ _
theorem visF_mem {u : Un} {l : List Int} {x : Pa} (h : x ∈ visF u l) : x ∈ u.Deps := by
  obtain ⟨n, _, hn⟩ := List.mem_filterMap.1 h
  split at hn
  · rename_i hb
    simp only [Option.some.injEq] at hn
    subst hn
    obtain ⟨h0, h1⟩ := hb
    have hi : n.toNat < u.Deps.length := by omega
    rw [show n = ((n.toNat : Nat) : Int) from by omega, gt_at hi]
    exact List.getElem_mem hi
  · cases hn
theorem visF_cons (u : Un) (n : Int) (l : List Int) : visF u (n :: l) = if 0 ≤ n ∧ n < (u.Deps.length : Int) then gt u.Deps n :: visF u l else visF u l := by
  unfold visF
  rw [List.filterMap_cons]
  by_cases h : 0 ≤ n ∧ n < (u.Deps.length : Int)
  · rw [if_pos h, if_pos h]
  · rw [if_neg h, if_neg h]
theorem vis_loop {u : Un} (hP : u.Public.length ≤ 1000) : ∀ (d k i : Nat) (out : List Pa), i + d = u.Public.length → d < k → out.length + d ≤ 100000 → graph_Visible_1_l1 u k out (i : Int) = .ok (out ++ visF u (u.Public.drop i))
  | 0, k, i, out, hi, hk, ho => by
    obtain ⟨k, rfl⟩ : ∃ m, k = m + 1 := ⟨k - 1, by omega⟩
    rw [graph_Visible_1_l1, if_neg (by omega), List.drop_eq_nil_of_le (by omega)]
    show _ = R.ok (out ++ [])
    rw [List.append_nil]
  | d + 1, k, i, out, hi, hk, ho => by
    obtain ⟨k, rfl⟩ : ∃ m, k = m + 1 := ⟨k - 1, by omega⟩
    have hlt : i < u.Public.length := by omega
    rw [graph_Visible_1_l1, if_pos (by omega), if_pos (by omega), gt_at hlt, next64 (by omega), drop_at hlt, visF_cons]
    have hc : (if (0 : Int) ≤ u.Public[i] then (R.ok (decide (u.Public[i] < (u.Deps.length : Int)))) else (R.ok false)) = R.ok (decide (0 ≤ u.Public[i] ∧ u.Public[i] < (u.Deps.length : Int))) := by
      by_cases h0 : (0 : Int) ≤ u.Public[i]
      · rw [if_pos h0]; simp only [h0, true_and]
      · rw [if_neg h0, decide_eq_false fun h => h0 h.1]
    rw [hc]
    simp only [R.bind_ok]
    by_cases h : 0 ≤ u.Public[i] ∧ u.Public[i] < (u.Deps.length : Int)
    · rw [decide_eq_true h, if_pos rfl, if_pos h, if_pos h, if_pos (by simp only [List.length_singleton]; omega), vis_loop hP d k (i + 1) _ (by omega) (by omega) (by simp only [List.length_append, List.length_singleton]; omega), List.append_assoc]
      rfl
    · rw [decide_eq_false h, if_neg (by decide), if_neg h, vis_loop hP d k (i + 1) _ (by omega) (by omega) (by omega)]
theorem vis1_first {u : Un} (h : u.Deps.length ≤ 100000) : graph_Visible_1 u true = .ok u.Deps := by
  unfold graph_Visible_1
  rw [if_pos rfl, clone_ok h]; rfl
theorem vis1_ok {u : Un} (h : u.Public.length ≤ 1000) : graph_Visible_1 u false = .ok (visU u) := by
  unfold graph_Visible_1
  have := vis_loop h u.Public.length Many 0 [] (by omega) (many_gt (by omega)) (by simp only [List.length_nil]; omega)
  rw [show ((0 : Nat) : Int) = 0 from rfl] at this
  rw [if_neg (by decide), this]
  rfl
theorem stV_meas {L : List Un} {p : Pa} (hL : L.length ≤ 30) (hD : ∀ u ∈ L, u.Deps.length ≤ 30) (hP : ∀ u ∈ L, u.Public.length ≤ 30) {q : List Pa} (hq : ∀ x ∈ q, x ∈ Uni L p) (hl : q.length ≤ 30) : Meas (stV L) (Uni L p) q [] := by
  have h1 := uni_len (p := p) hL hD
  refine ⟨fun p' x hx => ?_, fun p' => ?_, hq, (fun _ h => by cases h), List.nodup_nil, h1, by simp only [List.length_nil]; omega⟩
  · unfold stV at hx
    split at hx
    · rename_i u hu; exact dep_uni hu (visF_mem hx)
    · cases hx
  · unfold stV
    split
    · rename_i u hu; exact Nat.le_trans (visF_len u _) (hP u (List.mem_of_find?_eq_some hu))
    · exact Nat.zero_le _
theorem vl0_ok : ∀ (n : Nat) (left out : List Pa) (k : Nat) (last : Option Pa), left.length = n → n < k → (out ++ left).Nodup → out.length + left.length ≤ 100000 → graph_reach_v1_l0 k out left last = .ok (sortT (out ++ left))
  | n, left, out, k, last, hn, hk, hnd, hl => by
    obtain ⟨k, rfl⟩ : ∃ m, k = m + 1 := ⟨k - 1, by omega⟩
    rw [graph_reach_v1_l0]
    by_cases e : left = []
    · subst e
      rw [if_pos rfl, if_pos (by simp at hl; omega), List.append_nil]
    · rw [if_neg e]
      have hpos := List.length_pos_iff.2 e
      refine R.all_eq hpos fun i hi => ?_
      have he : (left.eraseIdx i).length = left.length - 1 := by rw [List.length_eraseIdx, if_pos hi]
      have hp : (out ++ [left[i]] ++ left.eraseIdx i).Perm (out ++ left) := by
        rw [List.append_assoc]
        exact List.Perm.append_left _ (cons_erase hi)
      rw [if_pos (by simp only [List.length_singleton]; omega), getD_at hi]
      obtain ⟨n, rfl⟩ : ∃ m, n = m + 1 := ⟨n - 1, by omega⟩
      rw [vl0_ok n (left.eraseIdx i) (out ++ [left[i]]) k _ (by omega) (by omega) ((hp.nodup_iff).2 hnd) (by rw [he]; simp only [List.length_append, List.length_singleton]; omega)]
      rw [sort_eq ((hp.nodup_iff).2 hnd) hp]
theorem vl2_ok {L : List Un} {M : List (Pa × Un)} (hM : ∀ p, mget p M = findU L p) (hD : ∀ u ∈ L, u.Deps.length ≤ 30) (hP : ∀ u ∈ L, u.Public.length ≤ 30) {f : Pa} {U : List Pa} : ∀ (n k : Nat) (q D Z : List Pa) (m : List (Pa × Int)), bfs (stV L) n q D = some Z → n ≤ k → Meas (stV L) U q D → MK f m D →
    ∃ m', graph_reach_v1_l2 M k q m = .ok m' ∧ MK f m' Z
  | 0, k, q, D, Z, m, hb, _, _, _ => by cases hb
  | n + 1, k, q, D, Z, m, hb, hk, hm, hmk => by
    obtain ⟨k, rfl⟩ : ∃ m, k = m + 1 := ⟨k - 1, by omega⟩
    cases q with
    | nil =>
      unfold bfs at hb
      simp only [Option.some.injEq] at hb
      subst hb
      exact ⟨m, by rw [graph_reach_v1_l2, if_neg (by decide)], hmk⟩
    | cons p q =>
      have hml := hm.ql
      simp only [List.length_cons] at hml
      rw [graph_reach_v1_l2, if_pos (by simp only [List.length_cons]; omega), if_pos (by simp only [List.length_cons]; omega), if_pos (by simp only [List.length_cons]; omega)]
      simp only [List.getD_cons_zero, List.drop_succ_cons, List.drop_zero]
      unfold bfs at hb
      by_cases hp : p ∈ D
      · simp only [if_pos hp] at hb
        rw [if_pos ((hmk.one p).2 hp)]
        exact vl2_ok hM hD hP n k q D Z m hb (by omega) hm.old hmk
      · simp only [if_neg hp] at hb
        rw [if_neg fun h => hp ((hmk.one p).1 h), hM p]
        obtain ⟨h1, h2, h3⟩ := hm.new hp
        cases hu : findU L p with
        | none =>
          rw [if_neg (by simp)]
          have e : stV L p = [] := by unfold stV; rw [hu]
          rw [e, List.append_nil] at hb h1
          exact vl2_ok hM hD hP n k q _ Z _ hb (by omega) h1 (hmk.put hp)
        | some u =>
          rw [if_pos (show (some u).isSome = true from rfl)]
          have hmem : u ∈ L := List.mem_of_find?_eq_some hu
          have hul := hD u hmem
          have e : stV L p = visU u := by unfold stV; rw [hu]
          rw [e] at hb h1
          have hql := h1.ql
          simp only [List.length_append] at hql
          rw [Option.getD_some, vis1_ok (Nat.le_trans (hP u hmem) (by decide))]
          simp only [R.bind_ok]
          rw [if_pos (by omega)]
          exact vl2_ok hM hD hP n k _ _ Z _ hb (by omega) h1 (hmk.put hp)
theorem vreach_ok {L : List Un} {p : Pa} (hL : L.length ≤ 30) (hD : ∀ u ∈ L, u.Deps.length ≤ 30) (hP : ∀ u ∈ L, u.Public.length ≤ 30) : (findU L p = none ∧ graph_reach_v1 L p = .ok []) ∨
    ∃ u Z r, findU L p = some u ∧ bfs (stV L) 100000 u.Deps [] = some Z ∧ graph_reach_v1 L p = .ok r ∧ Asc r ∧ r.length ≤ 1000 ∧ ∀ q, q ∈ r ↔ q = p ∨ q ∈ Z := by
  obtain ⟨M, hM1, hM2⟩ := units_ok (L := L) (by omega)
  unfold graph_reach_v1
  rw [hM1]
  simp only [R.sure, R.bind_ok]
  rw [hM2 p]
  cases hu : findU L p with
  | none => exact .inl ⟨rfl, by rw [if_neg (by simp)]⟩
  | some u =>
    rw [if_pos (show (some u).isSome = true from rfl), Option.getD_some]
    have hmem : u ∈ L := List.mem_of_find?_eq_some hu
    have hul := hD u hmem
    rw [vis1_first (by omega)]
    simp only [R.bind_ok]
    have hme : Meas (stV L) (Uni L p) u.Deps [] := stV_meas hL hD hP (fun x hx => dep_uni hu hx) hul
    have hun := hme.u
    obtain ⟨Z, hR⟩ := bfs_some 100000 u.Deps [] hme (by simp only [List.length_nil]; omega)
    obtain ⟨m', h1, h2⟩ := vl2_ok hM2 hD hP (f := p) 100000 Many u.Deps [] Z _ hR (by decide) hme (MK.start p)
    rw [h1]
    simp only [R.bind_ok]
    unfold graph_reach_v1_j1
    have hR2 : ∀ x ∈ Z, x ∈ Uni L p := (bfs_spec 100000 u.Deps [] Z hR List.nodup_nil (fun _ h => by cases h)).2.2.2.2 (fun x => x ∈ Uni L p) (fun x hx => dep_uni hu hx) (fun _ h => by cases h) fun q _ x hx => hme.step q x hx
    have hkl : (m'.map Prod.fst).length ≤ 1000 := by
      refine Nat.le_trans (nodup_len h2.nd fun x hx => ?_) hun
      rcases (h2.keys x).1 hx with rfl | h
      · exact List.mem_cons_self
      · exact hR2 x h
    rw [vl0_ok _ _ [] Many none rfl (many_gt (by omega)) h2.nd (by simp only [List.length_nil]; omega), List.nil_append]
    exact .inr ⟨u, Z, _, rfl, hR, rfl, sort_asc h2.nd, by rw [(sort_perm _).length_eq]; exact hkl, fun q => by rw [sort_mem]; exact h2.keys q⟩

/-! ### The reference -/
theorem refV_l2 {L : List Un} {u : Un} {j : Nat} (hj : j < L.length) (hg : gt L (j : Int) = u) (hP : u.Public.length ≤ 1000) : ∀ (d k i : Nat) (out : List Pa), i + d = u.Public.length → d < k → out.length + d ≤ 100000 → glossaryref10_Visible_l2 (j : Int) L k out (i : Int) = .ok (out ++ visF u (u.Public.drop i))
  | 0, k, i, out, hi, hk, ho => by
    obtain ⟨k, rfl⟩ : ∃ m, k = m + 1 := ⟨k - 1, by omega⟩
    rw [glossaryref10_Visible_l2, hg, if_neg (by omega), List.drop_eq_nil_of_le (by omega)]
    show _ = R.ok (out ++ [])
    rw [List.append_nil]
  | d + 1, k, i, out, hi, hk, ho => by
    obtain ⟨k, rfl⟩ : ∃ m, k = m + 1 := ⟨k - 1, by omega⟩
    have hlt : i < u.Public.length := by omega
    rw [glossaryref10_Visible_l2, hg, if_pos (by omega), if_pos (by omega), gt_at hlt, next64 (by omega), drop_at hlt, visF_cons]
    have hc : (if (0 : Int) ≤ u.Public[i] then (if 0 ≤ (j : Int) ∧ (j : Int) < (L.length : Int) then (R.ok (decide (u.Public[i] < (u.Deps.length : Int)))) else R.stuck) else (R.ok false)) = R.ok (decide (0 ≤ u.Public[i] ∧ u.Public[i] < (u.Deps.length : Int))) := by
      rw [if_pos (show 0 ≤ (j : Int) ∧ (j : Int) < (L.length : Int) from ⟨by omega, by omega⟩)]
      by_cases h0 : (0 : Int) ≤ u.Public[i]
      · rw [if_pos h0]; simp only [h0, true_and]
      · rw [if_neg h0, decide_eq_false fun h => h0 h.1]
    rw [hc]
    simp only [R.bind_ok]
    by_cases h : 0 ≤ u.Public[i] ∧ u.Public[i] < (u.Deps.length : Int)
    · rw [decide_eq_true h, if_pos rfl, if_pos (show 0 ≤ (j : Int) ∧ (j : Int) < (L.length : Int) from ⟨by omega, by omega⟩), if_pos h, if_pos h, if_pos (by simp only [List.length_singleton]; omega), refV_l2 hj hg hP d k (i + 1) _ (by omega) (by omega) (by simp only [List.length_append, List.length_singleton]; omega), List.append_assoc]
      rfl
    · rw [decide_eq_false h, if_neg (by decide), if_neg h, refV_l2 hj hg hP d k (i + 1) _ (by omega) (by omega) (by omega)]
theorem refV_loop {L : List Un} (hL : L.length ≤ 30) (hD : ∀ u ∈ L, u.Deps.length ≤ 30) (hP : ∀ u ∈ L, u.Public.length ≤ 30) {U : List Pa} {p0 : Pa} (hp0 : p0 ∈ U) : ∀ (n k : Nat) (q D Z out : List Pa), bfs (stV L) n q D = some Z → n ≤ k → Meas (stV L) U q D → Asc out → (∀ x, x ∈ out ↔ x = p0 ∨ x ∈ D) →
    ∃ r, glossaryref10_Visible_l1 L k out q D = .ok r ∧ Asc r ∧ ∀ x, x ∈ r ↔ x = p0 ∨ x ∈ Z
  | 0, k, q, D, Z, out, hb, _, _, _, _ => by cases hb
  | n + 1, k, q, D, Z, out, hb, hk, hm, ha, ho => by
    obtain ⟨k, rfl⟩ : ∃ m, k = m + 1 := ⟨k - 1, by omega⟩
    cases q with
    | nil =>
      unfold bfs at hb
      simp only [Option.some.injEq] at hb
      subst hb
      exact ⟨out, by rw [glossaryref10_Visible_l1, if_neg (by decide)], ha, ho⟩
    | cons p q =>
      have hml := hm.ql
      simp only [List.length_cons] at hml
      have hu1 := hm.u
      have hdl := hm.dl
      have hol := nodup_len (m := U) ha.nodup fun x hx => by
        rcases (ho x).1 hx with rfl | h
        · exact hp0
        · exact hm.hd x h
      rw [glossaryref10_Visible_l1, if_pos (by simp only [List.length_cons]; omega), if_pos (by simp only [List.length_cons]; omega), if_pos (by simp only [List.length_cons]; omega)]
      simp only [List.getD_cons_zero, List.drop_succ_cons, List.drop_zero]
      rw [in_ok _ (by omega)]
      simp only [R.bind_ok]
      unfold bfs at hb
      by_cases hp : p ∈ D
      · simp only [if_pos hp] at hb
        rw [decide_eq_true hp, if_pos rfl]
        exact refV_loop hL hD hP hp0 n k q D Z out hb (by omega) hm.old ha ho
      · simp only [if_neg hp] at hb
        rw [decide_eq_false hp, if_neg (by decide), if_pos (by simp only [List.length_singleton]; omega)]
        obtain ⟨h1, h2, h3⟩ := hm.new hp
        obtain ⟨out', e1, e2, e3⟩ := put_ok p (by omega : out.length ≤ 100000) ha
        rw [e1]
        simp only [R.bind_ok]
        have ho' : ∀ x, x ∈ out' ↔ x = p0 ∨ x ∈ D ++ [p] := fun x => by rw [e3, ho x, List.mem_append, List.mem_singleton, or_assoc]
        rcases find_ok p (by omega : L.length ≤ 100000) with ⟨hf, hf2⟩ | ⟨u, j, hf, hf2, hj, hgt⟩
        · rw [hf2]
          simp only [R.bind_ok]
          rw [if_neg (by decide)]
          have e : stV L p = [] := by unfold stV; rw [hf]
          rw [e, List.append_nil] at hb h1
          exact refV_loop hL hD hP hp0 n k q _ Z out' hb (by omega) h1 e2 ho'
        · rw [hf2]
          simp only [R.bind_ok]
          have e : stV L p = visU u := by unfold stV; rw [hf]
          rw [e] at hb h1
          have hul := hP u (List.mem_of_find?_eq_some hf)
          have hlo := refV_l2 hj hgt (by omega) u.Public.length Many 0 q (by omega) (many_gt (by omega)) (by omega)
          rw [show ((0 : Nat) : Int) = 0 from rfl, List.drop_zero] at hlo
          rw [if_pos (by omega), if_pos (by omega), hlo]
          simp only [R.bind_ok]
          exact refV_loop hL hD hP hp0 n k _ _ Z out' hb (by omega) h1 e2 ho'
theorem refV_ok {L : List Un} {p : Pa} (hL : L.length ≤ 30) (hD : ∀ u ∈ L, u.Deps.length ≤ 30) (hP : ∀ u ∈ L, u.Public.length ≤ 30) {u : Un} (hu : findU L p = some u) {Z : List Pa} (hZ : bfs (stV L) 100000 u.Deps [] = some Z) : ∃ r, glossaryref10_Visible L p = .ok r ∧ Asc r ∧ ∀ x, x ∈ r ↔ x = p ∨ x ∈ Z := by
  have hul := hD u (List.mem_of_find?_eq_some hu)
  have hme : Meas (stV L) (Uni L p) u.Deps [] := stV_meas hL hD hP (fun x hx => dep_uni hu hx) hul
  obtain ⟨r, h1, h2, h3⟩ := refV_loop hL hD hP (p0 := p) (U := Uni L p) List.mem_cons_self 100000 Many u.Deps [] Z [p] hZ (by decide) hme (List.pairwise_singleton _ _) (fun x => by simp)
  refine ⟨r, ?_, h2, h3⟩
  unfold glossaryref10_Visible
  rcases find_ok p (by omega : L.length ≤ 100000) with ⟨hf, hf2⟩ | ⟨u', j, hf, hf2, hj, hgt⟩
  · rw [hu] at hf; cases hf
  · rw [hu] at hf
    obtain rfl := Option.some.inj hf
    rw [hf2]
    simp only [R.bind_ok]
    rw [if_neg (by omega), if_pos (by omega), hgt, if_pos (by omega), h1]
    rfl
theorem refV_none {L : List Un} {p : Pa} (hL : L.length ≤ 30) (hu : findU L p = none) : glossaryref10_Visible L p = .ok [] := by
  unfold glossaryref10_Visible
  rcases find_ok p (by omega : L.length ≤ 100000) with ⟨hf, hf2⟩ | ⟨u', j, hf, hf2, hj, hgt⟩
  · rw [hf2]
    simp only [R.bind_ok]
    rw [if_pos (by decide)]
  · rw [hu] at hf; cases hf
theorem sees_law {L : List Un} {p : Pa} : glossarylaw10_GraphSees L p = .ok true := by
  unfold glossarylaw10_GraphSees
  rw [awake_ok]
  simp only [R.bind_ok, if_true]
  rcases few_ok L with hf | ⟨hf, hL, hDP⟩
  · rw [hf]; rfl
  rw [hf]
  simp only [R.bind_ok, if_true]
  have hD : ∀ u ∈ L, u.Deps.length ≤ 30 := fun u hu => (hDP u hu).1
  have hP : ∀ u ∈ L, u.Public.length ≤ 30 := fun u hu => (hDP u hu).2
  unfold graph_Visible
  rcases vreach_ok (p := p) hL hD hP with ⟨h1, h2⟩ | ⟨u, Z, r, h1, h2, h3, h4, h5, h6⟩
  · rw [h2, refV_none hL h1]
    simp only [R.bind_ok]
    rw [same_ok (by simp)]
    rfl
  · obtain ⟨r', k2, k3, k4⟩ := refV_ok hL hD hP h1 h2
    rw [h3, k2]
    have er : r = r' := asc_ext h4 k3 fun q => by rw [h6, k4]
    subst er
    simp only [R.bind_ok]
    rw [same_ok (by omega)]
    rfl
theorem graphSees_law {P : Prop} (x0 : List S_api_Unit) (_ : P) (x1 : List UInt8) (_ : x1.length ≤ maxLen) : CA qprim 7 [.sl 3 (List.map S_api_Unit.enc x0), .str x1] [] fun r _ => r = .ret (.bool true) :=
  glossarylaw10_GraphSees_call (KK := fun r => r = true) (X := fun _ => False) (by rw [sees_law]; exact rfl) (fun r h => by rw [h]) (fun v h => h.elim)
end Go.Proofs.Ytmaabgkgjknhpaa.Pv
