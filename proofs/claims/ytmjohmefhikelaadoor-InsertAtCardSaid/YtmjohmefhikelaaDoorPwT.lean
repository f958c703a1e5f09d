/- The pure evaluator, part T: a table of types is checked by the kernel. -/
import Derived.Test.YtmjohmefhikelaaDoorPwP
set_option linter.unusedVariables false
set_option linter.unusedSimpArgs false
namespace Go.Proofs.YtmjohmefhikelaaDoor.Pv
open Go

def kCheck : Option TypeDesc → K → Bool
  | some (.int k), .int k' => k == k'
  | some .bool, .bool => true
  | some .string, .str => true
  | some (.float k), .flt k' => k == k'
  | some (.complex k), .cpx k' => k == k'
  | some (.slice e), .slice e' => e == e'
  | some (.pointer e), .ptr e' => e == e'
  | some (.array n e), .arr n' e' => n == n' && e == e'
  | some (.map k e), .map k' e' => k == k' && e == e'
  | some (.struct F), .struct fs => F.toList.map (fun f => (f.offset, f.type)) == fs
  | some (.func _ _ _), .func => true
  | some (.interface _), .iface => true
  | _, .other => true
  | _, _ => false
def isAggV : Value → Bool
  | .agg _ => true
  | _ => false
def infoCheck (P : Program) (t : Nat) (e : Ty) : Bool :=
  match e.k with
  | .other => e.size == 0
  | _ => match P.info? t with
    | some i => (match i.zero with
      | some z => i.size == e.size && i.bytes == e.bytes && zms e.zero z.cells.toList && e.zero.length == e.size && isAggV z == e.agg
      | none => false)
    | none => false
def fieldsCheck (P : Program) (e : Ty) : Bool :=
  match e.k with
  | .struct fs => fs.all fun f => (P.info? f.2).isSome
  | _ => true
def tyCheck (P : Program) (ty : Nat → Ty) (t : Nat) : Bool := kCheck (P.underlying t) (ty t).k && infoCheck P t (ty t) && fieldsCheck P (ty t)

theorem kCheck_spec {P : Program} {t : Nat} {k : K} (h : kCheck (P.underlying t) k = true) : KOK P t k := by
  unfold kCheck at h
  split at h <;> simp only [Bool.and_eq_true, beq_iff_eq, Bool.false_eq_true] at h <;> rename_i hu
  all_goals first
    | (subst h; exact hu)
    | exact hu
    | (obtain ⟨rfl, rfl⟩ := h; exact hu)
    | exact ⟨_, hu, h⟩
    | exact ⟨_, _, _, hu⟩
    | exact ⟨_, hu⟩
    | trivial
theorem infoCheck_spec {P : Program} {t : Nat} {e : Ty} (h : infoCheck P t e = true) : match e.k with
    | .other => e.size = 0
    | _ => ∃ i z, P.info? t = some i ∧ i.size = e.size ∧ i.bytes = e.bytes ∧ i.zero = some z ∧ zms e.zero z.cells.toList = true ∧ e.zero.length = e.size ∧ (match z with | .agg _ => true | _ => false) = e.agg := by
  unfold infoCheck at h
  split at h
  · simpa using h
  · rename_i hk
    have : ∃ i z, P.info? t = some i ∧ i.size = e.size ∧ i.bytes = e.bytes ∧ i.zero = some z ∧ zms e.zero z.cells.toList = true ∧ e.zero.length = e.size ∧ (match z with | .agg _ => true | _ => false) = e.agg := by
      split at h
      · rename_i i hi
        split at h
        · rename_i z hz
          simp only [Bool.and_eq_true, beq_iff_eq] at h
          obtain ⟨⟨⟨⟨h1, h2⟩, h3⟩, h4⟩, h5⟩ := h
          refine ⟨i, z, hi, h1, h2, hz, h3, h4, ?_⟩
          rw [← h5]
          cases z <;> rfl
        · cases h
      · cases h
    exact this

theorem TyTab.of {P : Program} {ty : Nat → Ty} (n : Nat) (hfar : ∀ t, n ≤ t → ty t = ⟨.other, 0, 0, []⟩) (h : ((List.range n).all fun t => tyCheck P ty t) = true) : TyTab P ty := by
  have hc : ∀ t, t < n → tyCheck P ty t = true := fun t ht => List.all_eq_true.1 h t (List.mem_range.2 ht)
  refine ⟨fun t => ?_, fun t fs hk f hf => ?_⟩
  · by_cases ht : t < n
    · have := hc t ht
      simp only [tyCheck, Bool.and_eq_true] at this
      exact ⟨kCheck_spec this.1.1, infoCheck_spec this.1.2⟩
    · rw [hfar t (by omega)]
      exact ⟨trivial, rfl⟩
  · by_cases ht : t < n
    · have := hc t ht
      simp only [tyCheck, Bool.and_eq_true] at this
      have h3 := this.2
      unfold fieldsCheck at h3
      rw [hk] at h3
      exact Option.isSome_iff_exists.1 (List.all_eq_true.1 h3 f hf)
    · rw [hfar t (by omega)] at hk; cases hk

end Go.Proofs.YtmjohmefhikelaaDoor.Pv
