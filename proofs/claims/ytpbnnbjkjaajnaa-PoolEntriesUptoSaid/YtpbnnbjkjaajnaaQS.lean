/- From pure runs to the machine's calls; the bulk of a message's options. -/
import Derived.Test.YtpbnnbjkjaajnaaRows
import Derived.Test.YtpbnnbjkjaajnaaQP
import Derived.Test.YtpbnnbjkjaajnaaOS
import Derived.Test.YtpbnnbjkjaajnaaIC
import Derived.ProofKit
import Derived.OpenShut
import Derived.LaidMore
import Derived.Lay
import Derived.Stop.Joined
import Derived.JoinedCond
set_option linter.unusedVariables false
set_option linter.unusedSimpArgs false
namespace Go.Proofs.Ytpbnnbjkjaajnaa.Pv
open Go Go.Proofs Go.ChangeShapes Go.WideShapes Go.ChangeAt Go.RowKit Go.ChangeMaps

theorem own : ownKnob Try.prog.godebug = none := by kernel_rfl
theorem laidOut : laidOutB Try.prog = true := by kernel_rfl
theorem qprim_sound : ∀ f args h Q, qprim f args h Q → Sound Try.prog f args h Q := iterP_sound
theorem top_call {f : FuncId} {args : List V} (hc : CA qprim f args [] fun r _ => r = .ret (.bool true)) {w : World} {cargs : Array Value} (hargs : LRel w (whole w) [] args cargs.toList) (hlt : f < 1000000 := by decide) :
    Calls Try.prog f cargs w fun e w' => e = .returned (.bool true) ∧ Below w.heap.size w w' := acall_top ty_tab mixed qprim_sound hlt hc (fun q hq => by cases hq) hargs
/-- An argument of several cells, of one cell. -/
theorem rel_agg {W : World} {vs : List V} {v : Value} (h : Cells W (V.agg vs).cells v.cells.toList) (hn : vs.length ≠ 1) : VRel W (whole W) [] (.agg vs) v := by
  cases v with
  | agg ca => exact .agg vs ca (by simpa [V.cells, Value.cells] using h.1) fun k c u hc hu => h.2.2 k c u hc (by simpa [Value.cells] using hu)
  | _ => exact absurd (by simpa [V.cells, Value.cells] using h.1) hn
theorem bulk_one {H : Type} (d : DataW H) : 1 ≤ Rows.uptoBulk d := by
  cases d with
  | lit l => cases l <;> simp [Rows.uptoBulk]
  | _ => simp [Rows.uptoBulk]
theorem bulk_all {H : Type} (l : List (DataW H)) : l.length ≤ Rows.uptoBulkAll l := by
  induction l with
  | nil => simp
  | cons x r ih => have := bulk_one x; simp only [Rows.uptoBulkAll, List.length_cons]; omega
theorem bulk_part {H : Type} {d : DataW H} {l : List (DataW H)} (h : d ∈ l) : Rows.uptoBulk d ≤ Rows.uptoBulkAll l := by
  induction l with
  | nil => cases h
  | cons x r ih =>
    simp only [Rows.uptoBulkAll]
    rcases List.mem_cons.1 h with rfl | e
    · omega
    · have := ih e; omega
theorem bulk_in {H : Type} {d : DataW H} {l : List (DataW H)} (hk : Rows.uptoSmall H l = true) (h : d ∈ l) : Rows.uptoBulk d ≤ 1048576 := Nat.le_trans (bulk_part h) (of_decide_eq_true hk)
theorem msg_bulk {H : Type} {enc : TypeId × Value → H} {W : World} {v : Value} {d : DataW H} {p : List MemPlace} (h : DataW.Trod enc Try.prog W 0 (fun _ => true) true 30 v d p) {a : S_api_Message} (hc : Cells W (S_api_Message.enc a).cells v.cells.toList) : a.Options.length ≤ Rows.uptoBulk d := by
  obtain ⟨fuel, hf⟩ := h
  obtain ⟨xs, n, hn, hx, hl, hxl, hfd⟩ := DataW.trod_struct Try.underlying30 hf
  rw [S_api_Message.enc_eq] at hc
  simp only [V.cells] at hc
  have hlen : v.cells.toList.length = 11 := hc.1.symm
  have h9l : 9 < v.cells.toList.length := by omega
  have hu := hc.2.2 9 (.sl 1 (List.map byteV a.Options)) v.cells.toList[9] rfl (List.getElem?_eq_getElem h9l)
  have h9 := hfd 9 _ rfl
  have hx9 : 9 < xs.length := by rw [hxl]; decide
  rw [List.getElem?_eq_getElem hx9] at h9
  have hcell : (v.cells.toList.drop 9).take (Try.prog.cellsOf 28) = [v.cells.toList[9]] := by
    rw [show Try.prog.cellsOf 28 = 1 by kernel_rfl, List.drop_eq_getElem_cons h9l]; rfl
  replace h9 : DataW.trod enc Try.prog W 0 (fun _ => true) true n 28 [v.cells.toList[9]] = some xs[9] := by rw [← hcell]; exact h9
  generalize v.cells.toList[9] = u at hu h9
  have hd : d = .agg (xs.map (·.1)) := congrArg Prod.fst hx
  have hb : Rows.uptoBulk xs[9].1 ≤ Rows.uptoBulk d := by
    rw [hd]
    have := bulk_part (d := xs[9].1) (l := xs.map (·.1)) (List.mem_map_of_mem (List.getElem_mem hx9))
    simp only [Rows.uptoBulk]
    omega
  refine Nat.le_trans ?_ hb
  rcases DataW.trod_slice Try.underlying28 h9 with ⟨hcs, _⟩ | ⟨ad, len, cap, elems, rest, m, _, hcs, he, _, _, _, hel, _⟩
  · simp only [List.cons.injEq, and_true] at hcs
    subst hcs
    generalize hm : List.map byteV a.Options = ms at hu
    cases hu with
    | sl0 => have := congrArg List.length hm; simp at this; rw [this]; exact Nat.zero_le _
  · simp only [List.cons.injEq, and_true] at hcs
    subst hcs
    have hlen2 : a.Options.length = len := by
      have hll : (List.map byteV a.Options).length = a.Options.length := List.length_map _
      rw [← hll]
      generalize hm : List.map byteV a.Options = ms at hu
      cases hu with
      | sl0 => rfl
      | sl _ _ b off _ _ vals h1 => exact h1.symm
    rw [he, hlen2, ← hel]
    have := bulk_all (elems.map (·.1))
    simp only [Rows.uptoBulk, List.length_map] at this ⊢
    omega
end Go.Proofs.Ytpbnnbjkjaajnaa.Pv
