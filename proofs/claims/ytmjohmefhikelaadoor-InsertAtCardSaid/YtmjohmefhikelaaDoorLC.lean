/- A text put in at a point: the program's At and the reference's come to one value. -/
import Derived.Test.YtmjohmefhikelaaDoorLB
set_option linter.unusedVariables false
set_option linter.unusedSimpArgs false
set_option maxRecDepth 100000
namespace Go.Proofs.YtmjohmefhikelaaDoor.Pv
open Go Go.Proofs
theorem suffix_one (x : List UInt8) (hx : x ≠ []) : Lib.trimSuffix x [10] ++ [10] = x ++ (if x.getD (x.length - 1) 0 = 10 then [] else [10]) := by
  have hpos : 0 < x.length := List.length_pos_iff.2 hx
  have hg : x.getD (x.length - 1) 0 = x.getLast hx := by
    rw [List.getLast_eq_getElem, List.getD_eq_getElem?_getD, List.getElem?_eq_getElem (by omega)]
    rfl
  rw [hg]
  have hsp := List.dropLast_concat_getLast hx
  unfold Lib.trimSuffix
  by_cases h : x.getLast hx = 10
  · have hs : Lib.hasSuffix x [10] = true := by
      unfold Lib.hasSuffix
      rw [List.isSuffixOf_iff_suffix]
      exact ⟨x.dropLast, by rw [← h]; exact hsp⟩
    rw [if_pos hs, if_pos h, List.append_nil]
    have : x.take (x.length - [(10 : UInt8)].length) = x.dropLast := by rw [List.dropLast_eq_take]; rfl
    rw [this]
    conv => rhs; rw [← hsp, h]
  · have hs : Lib.hasSuffix x [10] = false := by
      rw [Bool.eq_false_iff]
      unfold Lib.hasSuffix
      intro e
      rw [List.isSuffixOf_iff_suffix] at e
      obtain ⟨t, ht⟩ := e
      apply h
      have : x.getLast hx = (t ++ [10]).getLast (by simp) := by congr 1; exact ht.symm
      rw [this]
      simp
    rw [if_neg (by rw [hs]; decide), if_neg h]
theorem inner_ok (l : List UInt8) (hl : l.length ≤ 500) (ls : List (List UInt8)) (i1 j1 : Int) (t : List (List UInt8)) (ht : ∀ x ∈ t, x ≠ [] ∧ x.length ≤ 500) (hn : t.length ≤ 1000) :
    ∀ (k i : Nat) (acc : List UInt8), i ≤ t.length → t.length - i < k → acc.length + (t.length - i) * 1100 ≤ 1000000000 →
    glossaryref27_At_l4 k acc l ls i1 j1 t (t.length : Int) (i : Int) = .ok (acc ++ ((t.drop i).map (piece l)).flatten, l, ls, i1, j1)
  | 0, i, acc, h1, h2, h3 => by omega
  | k + 1, i, acc, h1, h2, h3 => by
    rw [glossaryref27_At_l4]
    by_cases hi : i < t.length
    · rw [if_pos (show (i : Int) < (t.length : Int) by omega), if_pos (show 0 ≤ (i : Int) ∧ (i : Int) < (t.length : Int) by omega), gt_at hi]
      have hx := ht _ (List.getElem_mem hi)
      have hs := suffix_one t[i] hx.1
      have hpos : 0 < (t[i]).length := List.length_pos_iff.2 hx.1
      have hb := bl_len l
      have e1 : IntKind.wrap .i64 ((i : Int) + 1) = ((i + 1 : Nat) : Int) := by rw [wrap64 (by omega)]; omega
      have e2 : IntKind.wrap .i64 (((t[i]).length : Int) - 1) = (((t[i]).length - 1 : Nat) : Int) := by rw [wrap64 (by omega)]; omega
      have hd : t.drop i = t[i] :: t.drop (i + 1) := drop_at hi
      have step : ∀ acc' : List UInt8, acc'.length ≤ acc.length + 500 → glossaryref27_At_j5 (glossaryref27_At_l4 k) acc' l t[i] ls i1 j1 t (t.length : Int) (i : Int) = .ok (acc' ++ (Lib.trimSuffix t[i] [10] ++ [10]) ++ ((t.drop (i + 1)).map (piece l)).flatten, l, ls, i1, j1) := by
        intro acc' ha
        unfold glossaryref27_At_j5
        rw [hs, e1, e2, if_pos (by omega), if_pos (by omega), Int.toNat_natCast]
        by_cases h10 : (t[i]).getD ((t[i]).length - 1) 0 = 10
        · rw [if_pos ((byte10 _).2 h10), if_pos h10]
          rw [inner_ok l hl ls i1 j1 t ht hn k (i + 1) _ (by omega) (by omega) (by simp; omega)]
          simp
        · rw [if_neg (fun e => h10 ((byte10 _).1 e)), if_neg h10, if_pos (by simp; omega)]
          rw [inner_ok l hl ls i1 j1 t ht hn k (i + 1) _ (by omega) (by omega) (by simp; omega)]
          simp
      by_cases hx10 : t[i] = [10]
      · rw [if_pos hx10, step acc (by omega), hd, List.map_cons, List.flatten_cons]
        simp only [piece, if_pos hx10, List.nil_append, List.append_assoc]
      · rw [if_neg hx10, rbl_ok l (by omega), R.bind_ok, if_pos (by omega), step (acc ++ bl l) (by simp; omega), hd, List.map_cons, List.flatten_cons]
        simp only [piece, if_neg hx10, List.append_assoc]
    · rw [if_neg (show ¬ (i : Int) < (t.length : Int) by omega), List.drop_eq_nil_of_le (by omega)]
      simp
theorem full_len {m t l : List UInt8} (hl : l.length ≤ 500) (ht : t.length ≤ 500) : (full m t l).length ≤ 550500 := by
  have := ins_len hl ht
  unfold full
  split <;> simp <;> omega
theorem marker_ne (p : List UInt8) : marker p ≠ [] := by unfold marker; simp
theorem marker_len (p : List UInt8) : (marker p).length = p.length + 26 := by unfold marker; simp
theorem outer_ok (p t : List UInt8) (hp : p.length ≤ 200) (ht : t.length ≤ 500) (c : List (List UInt8)) (hc : ∀ x ∈ c, x ≠ [] ∧ x.length ≤ 500) (hn : c.length ≤ 1000) :
    ∀ (k i : Nat) (acc : List UInt8) (b : Bool), i ≤ c.length → c.length - i < k → acc.length + (c.length - i) * 600000 ≤ 900000000 →
    glossaryref27_At_l1 p t k acc b c (c.length : Int) (i : Int) = .ok (acc ++ ((c.drop i).map (full (marker p) t)).flatten, b || (c.drop i).any (Lib.contains · (marker p)))
  | 0, i, acc, b, h1, h2, h3 => by omega
  | k + 1, i, acc, b, h1, h2, h3 => by
    rw [glossaryref27_At_l1]
    by_cases hi : i < c.length
    · rw [if_pos (show (i : Int) < (c.length : Int) by omega), if_pos (show 0 ≤ (i : Int) ∧ (i : Int) < (c.length : Int) by omega), gt_at hi]
      have hx := hc _ (List.getElem_mem hi)
      have hml := marker_len p
      have e1 : IntKind.wrap .i64 ((i : Int) + 1) = ((i + 1 : Nat) : Int) := by rw [wrap64 (by omega)]; omega
      have hd : c.drop i = c[i] :: c.drop (i + 1) := drop_at hi
      rw [if_pos (by simp; omega), if_pos (by simp; omega)]
      have hin := in_ok c[i] (marker p) (marker_ne p) (by omega) (by omega)
      unfold marker at hin
      rw [hin, R.bind_ok]
      have hfl := full_len (m := marker p) hx.2 ht
      have step : ∀ (acc' : List UInt8) (b' : Bool), acc'.length ≤ acc.length + 550000 → glossaryref27_At_j3 (glossaryref27_At_l1 p t k) acc' b' c[i] c (c.length : Int) (i : Int) = .ok (acc' ++ c[i] ++ ((c.drop (i + 1)).map (full (marker p) t)).flatten, b' || (c.drop (i + 1)).any (Lib.contains · (marker p))) := by
        intro acc' b' ha
        unfold glossaryref27_At_j3 glossaryref27_At_j2
        rw [if_pos (by omega), e1]
        exact outer_ok p t hp ht c hc hn k (i + 1) _ _ (by omega) (by omega) (by simp; omega)
      by_cases hcn : Lib.contains c[i] (marker p) = true
      · have hcn' := hcn
        unfold marker at hcn'
        rw [if_pos hcn', rlines_ok t (by omega), R.bind_ok]
        have hin4 : glossaryref27_At_l4 Many acc c[i] c (c.length : Int) (i : Int) (LN t) ((LN t).length : Int) 0 = .ok (acc ++ (((LN t).drop 0).map (piece c[i])).flatten, c[i], c, (c.length : Int), (i : Int)) :=
          inner_ok c[i] hx.2 c _ _ (LN t) (fun x hx' => by have := ln_ne hx'; exact ⟨this.1, by omega⟩) (by have := ln_len t; omega) Many 0 acc (Nat.zero_le _) (by have := ln_len t; unfold Many; omega) (by have := ln_len t; omega)
        rw [hin4, R.bind_ok, List.drop_zero]
        have hil := ins_len hx.2 ht
        have e3 : (((LN t)).map (piece c[i])).flatten = ins c[i] t := rfl
        simp only [e3]
        rw [step _ true (by simp; omega), hd, List.map_cons, List.flatten_cons, List.any_cons, hcn]
        simp only [full, if_pos hcn, List.append_assoc, Bool.true_or, Bool.or_true]
      · have hcn' := hcn
        unfold marker at hcn'
        rw [if_neg hcn', step acc b (by omega), hd, List.map_cons, List.flatten_cons, List.any_cons, show Lib.contains c[i] (marker p) = false by simpa using hcn]
        simp only [full, if_neg hcn, List.nil_append, List.append_assoc, Bool.false_or]
    · rw [if_neg (show ¬ (i : Int) < (c.length : Int) by omega), List.drop_eq_nil_of_le (by omega)]
      simp
theorem rat_ok (c p t : List UInt8) (hc : c.length ≤ 500) (hp : p.length ≤ 200) (ht : t.length ≤ 500) :
    glossaryref27_At c p t = .ok (if (LN c).any (Lib.contains · (marker p)) = true then (outAt c (marker p) t, true) else ([], false)) := by
  unfold glossaryref27_At
  rw [rlines_ok c (by omega), R.bind_ok]
  have h : glossaryref27_At_l1 p t Many [] false (LN c) ((LN c).length : Int) 0 = .ok ([] ++ (((LN c).drop 0).map (full (marker p) t)).flatten, false || ((LN c).drop 0).any (Lib.contains · (marker p))) :=
    outer_ok p t hp ht (LN c) (fun x hx => by have := ln_ne hx; exact ⟨this.1, by omega⟩) (by have := ln_len c; omega) Many 0 [] false (Nat.zero_le _) (by have := ln_len c; unfold Many; omega) (by have := ln_len c; show 0 + _ ≤ _; omega)
  rw [h, R.bind_ok, List.drop_zero, List.nil_append, Bool.false_or]
  unfold glossaryref27_At_j0
  by_cases ha : (LN c).any (Lib.contains · (marker p)) = true
  · simp only [ha, if_true]; rfl
  · rw [if_neg ha]
    simp only [Bool.not_eq_true] at ha
    simp only [ha]; rfl
theorem awake_ok : glossarylaw27_awake = .ok true := by
  unfold glossarylaw27_awake
  rw [at_ok _ _ _ (by decide) (by decide) (by decide), R.bind_ok]
  kernel_rfl
theorem insertAt_ok (c p t : List UInt8) : glossarylaw27_InsertAt c p t = .ok true := by
  unfold glossarylaw27_InsertAt
  rw [awake_ok, R.bind_ok, if_pos rfl]
  by_cases h1 : (500 : Int) < (c.length : Int)
  · rw [if_pos h1, R.bind_ok, if_pos rfl]
  · rw [if_neg h1]
    by_cases h2 : (200 : Int) < (p.length : Int)
    · rw [if_pos h2, R.bind_ok, if_pos rfl]
    · rw [if_neg h2, R.bind_ok]
      by_cases h3 : (500 : Int) < (t.length : Int)
      · rw [if_pos (decide_eq_true h3)]
      · rw [if_neg (by simpa using h3), at_ok c p t (by omega) (by omega) (by omega), R.bind_ok, rat_ok c p t (by omega) (by omega) (by omega), R.bind_ok, if_pos rfl, R.bind_ok, beq_self_eq_true]
theorem insertAt_law (x0 : List UInt8) (w0 : x0.length ≤ maxLen) (x1 : List UInt8) (w1 : x1.length ≤ maxLen) (x2 : List UInt8) (w2 : x2.length ≤ maxLen) : CA qprim 3 [.str x0, .str x1, .str x2] [] fun r _ => r = .ret (.bool true) := by
  refine glossarylaw27_InsertAt_call (KK := fun r => r = true) (X := fun _ => False) ?_ (fun r hr => by rw [hr]) fun v hv => hv.elim
  rw [insertAt_ok]
  rfl
end Go.Proofs.YtmjohmefhikelaaDoor.Pv
