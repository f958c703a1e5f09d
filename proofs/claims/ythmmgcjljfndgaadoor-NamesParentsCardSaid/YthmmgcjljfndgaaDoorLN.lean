/- A full name, and one behind it, come apart again. -/
import Derived.Test.YthmmgcjljfndgaaDoorG3
import Derived.Test.YthmmgcjljfndgaaDoorLI
import Derived.KernelRfl
set_option linter.unusedVariables false
set_option linter.unusedSimpArgs false
set_option maxRecDepth 20000
namespace Go.Proofs.YthmmgcjljfndgaaDoor.Pv
open Go Go.Proofs

theorem awake_ok : glossarylaw06_awake = R.ok true := by kernel_rfl
theorem point_word : I.wB 46 = false := by decide
theorem ident_parts {x : List UInt8} (h : I.identS x = true) : (∀ c ∈ x, c ≠ 46) ∧ x ≠ [] ∧ x.length ≤ 200 := by
  unfold I.identS at h
  simp only [Bool.and_eq_true, List.all_eq_true, decide_eq_true_eq, Bool.not_eq_true', decide_eq_false_iff_not] at h
  obtain ⟨h1, ⟨h2, h3⟩, _⟩ := h
  refine ⟨fun c hc e => ?_, h2, h3⟩
  have := h1 c hc
  rw [e, point_word] at this
  cases this
theorem last_loop (a b : List UInt8) (hb : ∀ c ∈ b, c ≠ 46) (hl : (a ++ 46 :: b).length ≤ 100000) : ∀ (m k : Nat), m ≤ b.length → m < k → bytealg_LastIndexByteString_l1 (a ++ 46 :: b) 46 k ((a.length + m : Nat) : Int) = .ok (.inr (a.length : Int))
  | 0, k, hm, hk => by
    obtain ⟨k, rfl⟩ : ∃ m, k = m + 1 := ⟨k - 1, by omega⟩
    have hlt : a.length < (a ++ 46 :: b).length := by simp
    rw [bytealg_LastIndexByteString_l1, if_pos (by omega), if_pos ⟨by omega, by omega⟩, Int.toNat_natCast, Nat.add_zero, getD_at hlt, if_pos (by simp)]
  | m + 1, k, hm, hk => by
    obtain ⟨k, rfl⟩ : ∃ m, k = m + 1 := ⟨k - 1, by omega⟩
    have hlen : (a ++ 46 :: b).length = a.length + (b.length + 1) := by simp
    have hlt : a.length + (m + 1) < (a ++ 46 :: b).length := by omega
    have hg : (a ++ 46 :: b)[a.length + (m + 1)] = b[m]'(by omega) := by
      rw [List.getElem_append_right (by omega)]
      simp
    have hne : ¬ (((b[m]'(by omega) : UInt8).toNat : Int) = ((46 : UInt8).toNat : Int)) := fun e => hb (b[m]'(by omega)) (List.getElem_mem _) (UInt8.toNat_inj.1 (Int.ofNat_inj.1 e))
    have e1 : IntKind.wrap .i64 (((a.length + (m + 1) : Nat) : Int) - 1) = ((a.length + m : Nat) : Int) := by rw [wrap64 (by omega)]; omega
    rw [bytealg_LastIndexByteString_l1, if_pos (by omega), if_pos ⟨by omega, by omega⟩, Int.toNat_natCast, getD_at hlt, hg, if_neg hne, e1]
    exact last_loop a b hb hl m k (by omega) (by omega)
theorem last_ok (a b : List UInt8) (hb : ∀ c ∈ b, c ≠ 46) (hl : (a ++ 46 :: b).length ≤ 100000) : strings_LastIndexByte (a ++ 46 :: b) 46 = .ok (a.length : Int) := by
  unfold strings_LastIndexByte bytealg_LastIndexByteString
  have hlen : (a ++ 46 :: b).length = a.length + (b.length + 1) := by simp
  have e1 : IntKind.wrap .i64 (((a ++ 46 :: b).length : Int) - 1) = ((a.length + b.length : Nat) : Int) := by rw [wrap64 (by omega), hlen]; omega
  rw [e1, last_loop a b hb hl b.length Many (Nat.le_refl _) (many_gt (by omega))]
  rfl
theorem parent_ok (a b : List UInt8) (hb : ∀ c ∈ b, c ≠ 46) (hl : (a ++ 46 :: b).length ≤ 100000) : names_Parent (a ++ 46 :: b) = .ok (a, b) := by
  unfold names_Parent
  have hlen : (a ++ 46 :: b).length = a.length + (b.length + 1) := by simp
  rw [last_ok a b hb hl]
  simp only [R.bind_ok]
  have h0 : ¬ ((a.length : Int) < 0) := by omega
  rw [if_neg h0, next64 (by omega), if_pos (by omega), if_pos (by omega), Int.toNat_natCast, Int.toNat_natCast, List.take_left]
  congr 2
  rw [← List.drop_drop, List.drop_left]
  rfl
theorem indexByte_none {c : UInt8} : ∀ {b : List UInt8}, (∀ x ∈ b, x ≠ c) → Lib.indexByte b c < 0
  | [], _ => by simp [Lib.indexByte]
  | x :: b, h => by
    have ih := indexByte_none (c := c) (b := b) fun y hy => h y (List.mem_cons_of_mem _ hy)
    have hge := Lib.indexByte_ge b c
    have hm : Lib.indexByte b c = -1 := by omega
    unfold Lib.indexByte
    have : (x == c) = false := by simpa using h x List.mem_cons_self
    rw [this, hm]
    simp
theorem allOk_one (ok : ByteArray → Bool) {c : UInt8} {b : List UInt8} (h : ∀ x ∈ b, x ≠ c) : allOk ok c b = ok ⟨b.toArray⟩ := by rw [allOk, dif_pos (indexByte_none h)]
theorem full_ne {a : List UInt8} (h : allOk I.identB 46 a = true) : a ≠ [] := by
  rintro rfl
  rw [allOk_one _ (by simp)] at h
  exact absurd h (by decide)
theorem join_ok {a b : List UInt8} (ha : a ≠ []) (hl : (a ++ 46 :: b).length ≤ 100000) : names_Join a b = .ok (a ++ 46 :: b) := by
  have hlen : (a ++ 46 :: b).length = a.length + (b.length + 1) := by simp
  unfold names_Join
  rw [if_neg ha, if_pos (by simp; omega), if_pos (by simp; omega)]
  simp
theorem parents_plain (a b : List UInt8) : glossarylaw06_NamesParents a b = R.ok true := by
  unfold glossarylaw06_NamesParents
  rw [awake_ok]
  simp only [R.bind_ok, if_true]
  by_cases h1 : (100 : Int) < (List.length a : Int)
  · rw [if_pos h1]
    rfl
  · rw [if_neg h1]
    have e1 : names_Full a = .ok (allOk I.identB 46 a && decide (a.length ≤ 1000)) := by unfold names_Full; rw [if_pos (by omega)]
    rw [e1]
    simp only [R.bind_ok]
    by_cases h2 : (allOk I.identB 46 a && decide (a.length ≤ 1000)) = true
    · rw [if_pos h2]
      simp only [names_Ident, R.bind_ok]
      by_cases h3 : I.identS b = true
      · rw [h3]
        simp only [Bool.not_true, Bool.false_eq_true, if_false]
        obtain ⟨p1, p2, p3⟩ := ident_parts h3
        have h2' : allOk I.identB 46 a = true := (Bool.and_eq_true _ _ ▸ h2 : _ ∧ _).1
        have hne := full_ne h2'
        have hlen : (a ++ 46 :: b).length = a.length + (b.length + 1) := by simp
        have hl : (a ++ 46 :: b).length ≤ 100000 := by omega
        have e2 : names_Full (a ++ 46 :: b) = .ok true := by
          unfold names_Full
          rw [if_pos (by omega), allOk_behind I.identB 46 b a.length a (Nat.le_refl _), h2', allOk_one I.identB p1, decide_eq_true (by omega)]
          have : I.identB ⟨b.toArray⟩ = true := h3
          rw [this]
          rfl
        rw [join_ok hne hl]
        simp only [R.bind_ok]
        rw [parent_ok a b p1 hl]
        simp only [R.bind_ok, if_true, e2]
      · rw [Bool.eq_false_iff.2 h3]
        rfl
    · rw [if_neg h2]
      rfl
theorem parents_law (a : List UInt8) (ha : a.length ≤ maxLen) (b : List UInt8) (hb : b.length ≤ maxLen) : CA qprim 3 [.str a, .str b] [] fun r _ => r = .ret (.bool true) :=
  glossarylaw06_NamesParents_call (x0 := a) (x1 := b) (KK := fun r => r = true) (X := fun _ => False) (by rw [parents_plain]; exact rfl) (fun r hr => by rw [hr]) (fun v hv => hv.elim)
end Go.Proofs.YthmmgcjljfndgaaDoor.Pv
