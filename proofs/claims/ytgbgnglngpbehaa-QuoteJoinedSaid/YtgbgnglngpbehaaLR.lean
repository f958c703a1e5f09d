/- From pure runs to the given statements: what is covered where a call begins, and arguments that are bytes. -/
import Derived.Test.YtgbgnglngpbehaaRows
import Derived.Test.YtgbgnglngpbehaaQS
import Derived.ProofKit
import Derived.Deep.Slices
import Derived.JoinedCond
set_option linter.unusedVariables false
set_option linter.unusedSimpArgs false
namespace Go.Proofs.Ytgbgnglngpbehaa.Pv
open Go Go.Proofs Go.ChangeShapes Go.WideShapes Go.ChangeAt Go.RowKit Go.ChangeMaps

theorem own : ownKnob Try.prog.godebug = none := by kernel_rfl
theorem laidOut : laidOutB Try.prog = true := by kernel_rfl
/-- What is covered where a call begins. -/
abbrev whole (w : World) : Nat → Nat := fun x => match w.heap[x]? with | some (.cells c _ _) => c.size | _ => 0
theorem top_call {f : FuncId} {args : List V} (hc : CA qprim f args [] fun r _ => r = .ret (.bool true)) {w : World} {cargs : Array Value} (hargs : LRel w (whole w) [] args cargs.toList) :
    Calls Try.prog f cargs w fun e w' => e = .returned (.bool true) ∧ Below w.heap.size w w' := acall_top ty_tab mixed qprim_sound hc hargs
/-- What is covered holds every cell that can be read. -/
theorem whole_of_cell {W : World} {b off : Nat} {u : Value} (h : W.cell? ⟨b, off, none⟩ = some u) : off < whole W b := by
  unfold World.cell? at h
  unfold whole
  cases hb : W.heap[b]? with
  | none => rw [hb] at h; simp at h
  | some o =>
    rw [hb] at h
    cases o <;> simp at h
    case cells c e fr =>
      rcases Nat.lt_or_ge off c.size with h' | h'
      · exact h'
      · simp [Array.getElem?_eq_none h'] at h
theorem flat_bytes' (l : List UInt8) : (l.map byteV).flatMap V.cells = l.map byteV := by
  induction l with
  | nil => rfl
  | cons x r ih => simp only [List.map_cons, List.flatMap_cons, ih]; rfl

theorem bulk_one {H : Type} (d : DataW H) : 1 ≤ Rows.uptoBulk d := by
  cases d with
  | lit l => cases l <;> simp [Rows.uptoBulk]
  | _ => simp [Rows.uptoBulk]
theorem bulk_all {H : Type} (l : List (DataW H)) : l.length ≤ Rows.uptoBulkAll l := by
  induction l with
  | nil => simp
  | cons x r ih => have := bulk_one x; simp only [Rows.uptoBulkAll, List.length_cons]; omega
theorem bulk_slice {H : Type} (a b : List (DataW H)) : a.length ≤ Rows.uptoBulk (.slice a b) := by
  have := bulk_all a
  simp only [Rows.uptoBulk]
  omega
theorem bulk_str {H : Type} (bytes : List UInt8) : bytes.length ≤ Rows.uptoBulk (DataW.lit (H := H) (.string bytes)) := by simp [Rows.uptoBulk]
theorem bulk_part {H : Type} {d : DataW H} {l : List (DataW H)} (h : d ∈ l) : Rows.uptoBulk d ≤ Rows.uptoBulkAll l := by
  induction l with
  | nil => cases h
  | cons x r ih =>
    simp only [Rows.uptoBulkAll]
    rcases List.mem_cons.1 h with rfl | e
    · omega
    · have := ih e; omega
theorem bulk_in {H : Type} {d : DataW H} {l : List (DataW H)} (hk : Rows.uptoSmall H l = true) (h : d ∈ l) : Rows.uptoBulk d ≤ 1048576 := Nat.le_trans (bulk_part h) (of_decide_eq_true hk)
theorem bytes_bulk {t e : TypeId} (ht : Try.prog.underlying t = some (.slice e)) (he : Try.prog.underlying e = some (.int .u8)) (hce : Try.prog.cellsOf e = 1) {H : Type} {enc : TypeId × Value → H} {W : World} {base : Nat} {v : Value} {d : DataW H} {p : List MemPlace} (hv : Value.okWide Try.prog W .any base t v) (h : DataW.Trod enc Try.prog W 0 (fun _ => true) true t v d p) :
    ∃ l : List UInt8, VRel W (whole W) [] (.sl 1 (l.map byteV)) v ∧ l.length ≤ Rows.uptoBulk d := by
  obtain ⟨a0, len, cap, rfl⟩ := okWide_slice ht hv
  obtain ⟨fuel, hf⟩ := h
  rcases Go.Deep.open_slice1 ht hce hf with ⟨hcs, hx⟩ | ⟨a, len', cap', m, n, U, D, Pl, hcs, _, hl, hm, hmm, hx, hel⟩
  · simp [Value.cells] at hcs
    obtain ⟨rfl, rfl, rfl⟩ := hcs
    exact ⟨[], .sl0 1 none 0, Nat.zero_le _⟩
  · simp [Value.cells] at hcs
    obtain ⟨rfl, rfl, rfl⟩ := hcs
    simp only [if_true] at hmm
    by_cases h0 : len = 0
    · subst h0
      exact ⟨[], .sl0 1 _ _, Nat.zero_le _⟩
    · have hspot : a.spot = none := by
        have := (hel 0 (by omega)).1
        simpa [Addr.add] using World.cell?_spot this
      obtain ⟨b, off, sp⟩ := a
      simp only [] at hspot
      subst hspot
      have hc : ∀ k, k < len → W.cell? ⟨b, off + k, none⟩ = some (U k) := fun k hk => by
        have := (hel k (by omega)).1
        unfold Addr.add at this
        split at this
        · rename_i hk0; subst hk0; exact this
        · exact this
      have hu : ∀ k, k < len → ∃ c : UInt8, U k = .int .u8 (c.toNat : Int) := fun k hk => by
        obtain ⟨q, e1, _, hw⟩ := DataW.trod_int he (hel k (by omega)).2
        simp only [List.cons.injEq, and_true] at e1
        simp only [Lit.wf, IntKind.min, IntKind.max, IntKind.signed, IntKind.bits, Bool.and_eq_true, decide_eq_true_eq] at hw
        refine ⟨UInt8.ofNat q.toNat, ?_⟩
        rw [e1]
        have h1 : 0 ≤ q := by simpa using hw.1
        have h2 : q ≤ 255 := by simpa using hw.2
        congr 1
        have : q.toNat < 256 := by omega
        simp [Nat.mod_eq_of_lt this]; omega
      let B : Nat → UInt8 := fun k => if hk : k < len then (hu k hk).choose else 0
      have hB : ∀ k, k < len → U k = .int .u8 ((B k).toNat : Int) := fun k hk => by
        simp only [B, dif_pos hk]; exact (hu k hk).choose_spec
      obtain ⟨rfl, -⟩ := Prod.mk.injEq .. ▸ hx
      have hb := bulk_slice ((List.range len).map D) ((List.range (m - len)).map fun j => D (len + j))
      simp only [List.length_map, List.length_range] at hb
      refine ⟨(List.range len).map B, .sl 1 _ b off len _ ((List.range len).map U) (by simp) hl (by decide) (fun x hx => ?_) (by simp) ?_ (fun k u hk => ?_) (fun u hu' => ?_) (fun k c u hk hu' => ?_), by simpa using hb⟩
      · simp only [List.mem_map] at hx
        obtain ⟨y, _, rfl⟩ := hx
        rfl
      · have := whole_of_cell (hc (len - 1) (by omega))
        simp only [List.length_map, List.length_range]
        omega
      · rw [List.getElem?_map] at hk
        obtain ⟨s, hs, rfl⟩ := Option.map_eq_some_iff.1 hk
        obtain ⟨hk1, hk2⟩ := List.getElem?_eq_some_iff.1 hs
        simp at hk1 hk2
        subst hk2
        exact hc k hk1
      · simp only [List.mem_map, List.mem_range] at hu'
        obtain ⟨s, hs, rfl⟩ := hu'
        rw [hB s hs]; rfl
      · rw [flat_bytes'] at hk
        simp only [List.getElem?_map] at hk hu'
        cases hs : (List.range len)[k]? with
        | none => rw [hs] at hu'; simp at hu'
        | some s =>
          rw [hs] at hk hu'
          have hsl : s < len := by have := List.mem_of_getElem? hs; simpa using this
          simp only [Option.map_some, Option.some.injEq] at hk hu'
          subst hk; subst hu'
          rw [hB s hsl]
          exact .int _ _
theorem bytes_rel {t e : TypeId} (ht : Try.prog.underlying t = some (.slice e)) (he : Try.prog.underlying e = some (.int .u8)) (hce : Try.prog.cellsOf e = 1) {H : Type} {enc : TypeId × Value → H} {W : World} {base : Nat} {v : Value} {d : DataW H} {p : List MemPlace} (hv : Value.okWide Try.prog W .any base t v) (h : DataW.Trod enc Try.prog W 0 (fun _ => true) true t v d p) :
    ∃ l : List UInt8, VRel W (whole W) [] (.sl 1 (l.map byteV)) v := by
  obtain ⟨l, h, -⟩ := bytes_bulk ht he hce hv h
  exact ⟨l, h⟩

end Go.Proofs.Ytgbgnglngpbehaa.Pv
