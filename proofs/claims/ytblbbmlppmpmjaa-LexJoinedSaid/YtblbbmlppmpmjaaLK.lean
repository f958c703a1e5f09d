/- Tokens stand in order, each where it begins; the last one is the end. -/
import Derived.Test.YtblbbmlppmpmjaaG11
import Derived.Test.YtblbbmlppmpmjaaLS
import Derived.Test.YtblbbmlppmpmjaaLA
set_option linter.unusedVariables false
set_option linter.unusedSimpArgs false
set_option maxRecDepth 20000
namespace Go.Proofs.Ytblbbmlppmpmjaa.Pv
open Go Go.Proofs

theorem scanS_err (n : Nat) : ∀ (r : List UInt8) (k i : Nat) (d : List (List UInt8)) (f m : Bool) (e : Int × Int), r.length ≤ n → n < k → scanS k r i d f m = .inl e → e.2 ≠ 0 := by
  induction n with
  | zero =>
    intro r k i d f m e hr hk h
    obtain rfl := List.eq_nil_of_length_eq_zero (by omega : r.length = 0)
    obtain ⟨k, rfl⟩ : ∃ k', k = k' + 1 := ⟨k - 1, by omega⟩
    simp [scanS, bk] at h
  | succ n ih =>
    intro r k i d f m e hr hk h
    obtain ⟨k, rfl⟩ : ∃ k', k = k' + 1 := ⟨k - 1, by omega⟩
    have g2 := (bk_facts r r 0 d f m rfl (Nat.zero_le _)).2
    have g2' : (bk r i d f m).1.length ≤ r.length := by
      have key : ∀ (r : List UInt8) (i : Nat) (d : List (List UInt8)) (f m : Bool), (bk r i d f m).1.length ≤ r.length := by
        intro r
        induction r with
        | nil => intro i d f m; exact Nat.le_refl _
        | cons c r ih =>
          intro i d f m
          unfold bk
          split
          · split
            · have := ih (i + 1) (if m then d else []) false false; simp only [List.length_cons]; omega
            · have := ih (i + 1) d f m; simp only [List.length_cons]; omega
          · exact Nat.le_refl _
      exact key r i d f m
    unfold scanS at h
    generalize bk r i d f m = b at g2' h
    obtain ⟨r', i', d', f', m'⟩ := b
    cases r' with
    | nil => cases h
    | cons c t =>
      simp only [List.length_cons] at g2' h
      split at h
      · exact ih _ _ _ _ _ _ _ (by simp only [List.length_drop, List.length_cons]; omega) (by omega) h
      · split at h
        · split at h
          · exact ih _ _ _ _ _ _ _ (by simp only [List.length_drop, List.length_cons]; omega) (by omega) h
          · cases h; exact (show (51 : Int) ≠ 0 by decide)
        · split at h
          · rename_i q hq
            cases h
            exact tokS_err (n := q.1) (e := q.2) hq
          · rename_i q hq
            have := tokS_ok (t := q.1) (n := q.2) hq
            split at h
            · rename_i e' he
              cases h
              exact ih _ _ _ _ _ _ _ (by simp only [List.length_drop, List.length_cons]; omega) (by omega) he
            · cases h

/-- Tokens as they must stand, from a place on. -/
def KP (s : List UInt8) (i : Nat) (ts : List S_api_Token) : Prop :=
  ts ≠ [] ∧ ∀ (j : Nat) (h : j < ts.length), (ts[j].Kind = 0 ↔ j + 1 = ts.length) ∧ (i : Int) ≤ ts[j].At ∧ ts[j].At ≤ (s.length : Int) ∧
    (ts[j].Kind = 1 → ts[j].At + (ts[j].Text.length : Int) ≤ (s.length : Int) ∧ (s.drop ts[j].At.toNat).take ts[j].Text.length = ts[j].Text) ∧ (∀ h' : j + 1 < ts.length, ts[j].At < ts[j + 1].At) ∧ (j + 1 = ts.length → ts[j].At = (s.length : Int))
theorem KP.one {s : List UInt8} {i : Nat} {t : S_api_Token} (hi : (i : Int) ≤ t.At) (hk : t.Kind = 0) (ha : t.At = (s.length : Int)) : KP s i [t] := by
  refine ⟨by simp, fun j h => ?_⟩
  have hj : j = 0 := by simpa using h
  subst hj
  refine ⟨by simp [hk], hi, by simp [ha], fun h => ?_, fun h' => by simp at h', fun _ => ha⟩
  simp only [List.getElem_cons_zero] at h
  rw [hk] at h; cases h
theorem KP.cons {s : List UInt8} {i i' : Nat} {t : S_api_Token} {ts : List S_api_Token} (h : KP s i' ts) (hk : t.Kind ≠ 0) (hi : (i : Int) ≤ t.At) (hlt : t.At < (i' : Int))
    (hn : t.Kind = 1 → t.At + (t.Text.length : Int) ≤ (s.length : Int) ∧ (s.drop t.At.toNat).take t.Text.length = t.Text) : KP s i (t :: ts) := by
  obtain ⟨h0, h1⟩ := h
  have hl : 0 < ts.length := List.length_pos_iff.2 h0
  refine ⟨by simp, fun j hj => ?_⟩
  cases j with
  | zero =>
    obtain ⟨_, b2, b3, _⟩ := h1 0 hl
    refine ⟨⟨fun e => absurd e hk, fun e => by simp only [List.length_cons] at e; omega⟩, hi, by simp only [List.getElem_cons_zero]; omega, hn, fun h' => by simp only [List.getElem_cons_zero, List.getElem_cons_succ]; omega, fun e => by simp only [List.length_cons] at e; omega⟩
  | succ j =>
    simp only [List.length_cons] at hj ⊢
    obtain ⟨b1, b2, b3, b4, b5, b6⟩ := h1 j (by omega)
    refine ⟨?_, by simp only [List.getElem_cons_succ]; omega, b3, b4, fun h' => b5 (by omega), fun e => b6 (by omega)⟩
    simp only [List.getElem_cons_succ]
    rw [b1]
    omega
theorem KP.weaken {s : List UInt8} {i i' : Nat} {ts : List S_api_Token} (h : KP s i' ts) (hi : i ≤ i') : KP s i ts :=
  ⟨h.1, fun j hj => by obtain ⟨b1, b2, b3⟩ := h.2 j hj; exact ⟨b1, by omega, b3⟩⟩
theorem scanS_kp {s : List UInt8} : ∀ (k : Nat) (r : List UInt8) (i : Nat) (d : List (List UInt8)) (f m : Bool) (ts : List S_api_Token), s.drop i = r → i ≤ s.length → scanS k r i d f m = .inr ts → KP s i ts := by
  intro k
  induction k with
  | zero => intro r i d f m ts hd hi h; cases h
  | succ k ih =>
    intro r i d f m ts hd hi h
    obtain ⟨g1, g2, g3, g4, g5⟩ := bk_facts r s i d f m hd hi
    have hrl : r.length = s.length - i := by rw [← hd]; simp
    unfold scanS at h
    generalize bk r i d f m = b at g1 g2 g3 h
    obtain ⟨r', i', d', f', m'⟩ := b
    simp only [] at g1 g2 g3
    cases r' with
    | nil =>
      simp only [List.length_nil] at g2 h
      cases h
      exact KP.one (by simp only [mkT]; omega) rfl (by simp only [mkT]; omega)
    | cons c t =>
      simp only [List.length_cons] at g2 h
      split at h
      · rename_i c1
        obtain ⟨y, hy⟩ := two_pre c1
        have hy2 : (c :: t).drop 2 = y := by rw [hy]; rfl
        have hyl : t.length = y.length + 1 := by have := congrArg List.length hy; simpa using this
        have hp := pre_le y
        rw [hy2] at h
        exact (ih _ (i' + 2 + (pre y).length) _ _ _ _ (by rw [Nat.add_assoc, ← List.drop_drop, g1]) (by omega) h).weaken (by omega)
      · split at h
        · rename_i c2
          obtain ⟨y, hy⟩ := two_pre c2
          have hy2 : (c :: t).drop 2 = y := by rw [hy]; rfl
          have hyl : t.length = y.length + 1 := by have := congrArg List.length hy; simpa using this
          rw [hy2] at h
          split at h
          · rename_i c3
            have hcl := cut_len c3
            simp only [List.length_cons, List.length_nil] at hcl
            exact (ih _ (i' + 4 + (Lib.cut y [42, 47]).1.length) _ _ _ _ (by rw [Nat.add_assoc, ← List.drop_drop, g1]) (by omega) h).weaken (by omega)
          · cases h
        · split at h
          · cases h
          · rename_i q hq
            obtain ⟨t1, t2, t3, t4⟩ := tokS_ok (t := q.1) (n := q.2) hq
            simp only [List.length_cons] at t2
            split at h
            · cases h
            · rename_i ts' hts
              cases h
              have hk := ih ((c :: t).drop q.2) (i' + q.2) _ _ _ _ (by rw [← List.drop_drop, g1]) (by omega) hts
              refine hk.cons t3 (by simp only [mkT]; omega) (by simp only [mkT]; omega) (fun e => ?_)
              have ht := t4 e
              simp only [mkT, Int.toNat_natCast, g1]
              have hl : q.1.2.1.length = q.2 := by rw [ht, List.length_take, List.length_cons]; omega
              rw [hl]
              exact ⟨by omega, ht.symm⟩
theorem kinds_loop {s : List UInt8} (hs : s.length ≤ 600) {ts : List S_api_Token} (hk : KP s 0 ts) (hl : ts.length ≤ 100000) (r : List S_api_Token × Int × Int) (hr : r.1 = ts) : ∀ (n k j : Nat), j + n = ts.length → n < k →
    glossarylaw05_LexKinds_l1 r s k (j : Int) = .ok (.inl ()) := by
  intro n
  induction n with
  | zero =>
    intro k j hj hkk
    obtain ⟨k, rfl⟩ : ∃ k', k = k' + 1 := ⟨k - 1, by omega⟩
    rw [glossarylaw05_LexKinds_l1, hr, if_neg (by omega)]
  | succ n ih =>
    intro k j hj hkk
    obtain ⟨k, rfl⟩ : ∃ k', k = k' + 1 := ⟨k - 1, by omega⟩
    have hlt : j < ts.length := by omega
    obtain ⟨b1, b2, b3, b4, b5, b6⟩ := hk.2 j hlt
    rw [glossarylaw05_LexKinds_l1, hr, if_pos (by omega), if_pos (by omega), gt_at hlt, wrap64 (n := (ts.length : Int) - 1) (by omega)]
    have e1 : (decide (ts[j].Kind = 0) == decide ((j : Int) = (ts.length : Int) - 1)) = true := by
      have : (ts[j].Kind = 0) ↔ ((j : Int) = (ts.length : Int) - 1) := by rw [b1]; omega
      simp [this]
    rw [if_pos e1, if_neg (by omega), if_neg (by omega)]
    have e2 : (if (0 : Int) < (j : Int) then (if 0 ≤ (IntKind.wrap .i64 ((j : Int) - 1)) ∧ (IntKind.wrap .i64 ((j : Int) - 1)) < (List.length ts : Int) then (R.ok (decide (ts[j].At ≤ (gt ts (IntKind.wrap .i64 ((j : Int) - 1))).At))) else R.stuck) else (R.ok false)) = R.ok false := by
      by_cases h0 : (0 : Int) < (j : Int)
      · obtain ⟨j', rfl⟩ : ∃ j', j = j' + 1 := ⟨j - 1, by omega⟩
        have hlt' : j' < ts.length := by omega
        have ew : IntKind.wrap .i64 (((j' + 1 : Nat) : Int) - 1) = (j' : Int) := by rw [wrap64 (by omega)]; omega
        have := (hk.2 j' hlt').2.2.2.2.1 hlt
        rw [if_pos h0, ew, if_pos (by omega), gt_at hlt', decide_eq_false (by omega)]
      · rw [if_neg h0]
    rw [e2]
    simp only [R.bind_ok, Bool.false_eq_true, if_false]
    have e3 : (if ts[j].Kind = 1 then (if (IntKind.wrap .i64 ((List.length s : Int) - (List.length (ts[j].Text) : Int))) < ts[j].At then (R.ok true) else (if (0 ≤ (IntKind.wrap .i64 (ts[j].At + (List.length (ts[j].Text) : Int))) ∧ (IntKind.wrap .i64 (ts[j].At + (List.length (ts[j].Text) : Int))) ≤ (List.length s : Int)) ∧ 0 ≤ ts[j].At ∧ ts[j].At ≤ (IntKind.wrap .i64 (ts[j].At + (List.length (ts[j].Text) : Int))) then (R.ok (!(decide ((List.drop (Int.toNat (ts[j].At)) (List.take (Int.toNat (IntKind.wrap .i64 (ts[j].At + (List.length (ts[j].Text) : Int)))) s)) = (ts[j].Text))))) else R.stuck)) else (R.ok false)) = R.ok false := by
      by_cases h1 : ts[j].Kind = 1
      · obtain ⟨c1, c2⟩ := b4 h1
        have ew : IntKind.wrap .i64 (ts[j].At + (ts[j].Text.length : Int)) = ts[j].At + (ts[j].Text.length : Int) := wrap64 (by omega)
        rw [if_pos h1, wrap64 (n := (s.length : Int) - (ts[j].Text.length : Int)) (by omega), if_neg (by omega), ew, if_pos (by omega)]
        have e4 : List.drop (Int.toNat ts[j].At) (List.take (Int.toNat (ts[j].At + (ts[j].Text.length : Int))) s) = ts[j].Text := by
          rw [List.drop_take]
          have : Int.toNat (ts[j].At + (ts[j].Text.length : Int)) - Int.toNat ts[j].At = ts[j].Text.length := by omega
          rw [this, c2]
        rw [e4, decide_eq_true rfl]
        rfl
      · rw [if_neg h1]
    rw [e3]
    simp only [R.bind_ok, Bool.false_eq_true, if_false]
    rw [next64 (by omega)]
    exact ih k (j + 1) (by omega) (by omega)
theorem scanS_len : ∀ (k : Nat) (r : List UInt8) (i : Nat) (d : List (List UInt8)) (f m : Bool) (ts : List S_api_Token), scanS k r i d f m = .inr ts → ts.length ≤ k := by
  intro k
  induction k with
  | zero => intro r i d f m ts h; cases h
  | succ k ih =>
    intro r i d f m ts h
    unfold scanS at h
    generalize bk r i d f m = b at h
    obtain ⟨r', i', d', f', m'⟩ := b
    cases r' with
    | nil => cases h; simp
    | cons c t =>
      simp only [] at h
      split at h
      · exact Nat.le_succ_of_le (ih _ _ _ _ _ _ h)
      · split at h
        · split at h
          · exact Nat.le_succ_of_le (ih _ _ _ _ _ _ h)
          · cases h
        · split at h
          · cases h
          · split at h
            · cases h
            · rename_i ts' hts
              cases h
              have := ih _ _ _ _ _ _ hts
              simp only [List.length_cons]
              omega
theorem kinds_plain (x : List UInt8) : glossarylaw05_LexKinds x = .ok true := by
  unfold glossarylaw05_LexKinds
  rw [awake_ok]
  simp only [R.bind_ok, if_true]
  by_cases hx : x.length ≤ 600
  · rw [if_neg (by omega), scan_ok (by omega)]
    simp only [R.bind_ok]
    cases hsc : scan x with
    | inl e =>
      have := scanS_err x.length x _ _ _ _ _ e (Nat.le_refl _) (by omega) hsc
      have hz : (fin [] (Sum.inl e)).2.2 ≠ 0 := this
      rw [if_neg hz]
      rfl
    | inr ts =>
      have hk := scanS_kp (s := x) _ x 0 _ _ _ ts rfl (Nat.zero_le _) hsc
      have hl := scanS_len _ _ _ _ _ _ _ hsc
      have hp : 0 < ts.length := List.length_pos_iff.2 hk.1
      simp only [fin, List.nil_append, if_true]
      have h := kinds_loop hx hk (by omega) (ts, 0, 0) rfl ts.length Many 0 (by omega) (many_gt (by omega))
      rw [show ((0 : Nat) : Int) = 0 from rfl] at h
      rw [h]
      simp only [R.bind_ok, glossarylaw05_LexKinds_j0]
      have ew : IntKind.wrap .i64 ((ts.length : Int) - 1) = ((ts.length - 1 : Nat) : Int) := by rw [wrap64 (by omega)]; omega
      have hlast := (hk.2 (ts.length - 1) (by omega)).2.2.2.2.2 (by omega)
      rw [if_pos (by omega), ew, if_pos (by omega), gt_at (by omega), hlast]
      simp only [R.bind_ok, decide_true]
  · rw [if_pos (by omega)]
theorem kinds_law (x : List UInt8) : CA qprim 3 [.str x] [] fun r _ => r = .ret (.bool true) := by
  refine glossarylaw05_LexKinds_call (x0 := x) (KK := fun r => r = true) (X := fun _ => False) (by rw [kinds_plain]; exact rfl) (fun r hr => by rw [hr]) (fun v hv => hv.elim)
end Go.Proofs.Ytblbbmlppmpmjaa.Pv
