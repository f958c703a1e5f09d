/- From pure runs to the machine's calls, and the arguments of this seat. -/
import Derived.Test.YtpbnnbjkjaajnaaRows
import Derived.Test.YtpbnnbjkjaajnaaQP
import Derived.Test.YtpbnnbjkjaajnaaOS
import Derived.ProofKit
import Derived.OpenShut
import Derived.LaidMore
import Derived.Lay
import Derived.Stop.Joined
import Derived.JoinedCond
set_option linter.unusedVariables false
set_option linter.unusedSimpArgs false
namespace Go.Proofs.Ytpbnnbjkjaajnaa.Pv
open Go Go.Proofs Go.ChangeShapes Go.WideShapes Go.ChangeAt Go.RowKit Go.ChangeMaps

theorem own : ownKnob Try.prog.godebug = none := by kernel_rfl
theorem laidOut : laidOutB Try.prog = true := by kernel_rfl
instance : SortOK Try.prog := ⟨fun f hf => by cases hf⟩
theorem qprim_sound : ∀ f args h Q, qprim f args h Q → Sound Try.prog f args h Q := fun f args h Q hf => hf.elim
theorem top_call {f : FuncId} {args : List V} (hc : CA qprim f args [] fun r _ => r = .ret (.bool true)) {w : World} {cargs : Array Value} (hargs : LRel w (whole w) [] args cargs.toList) :
    Calls Try.prog f cargs w fun e w' => e = .returned (.bool true) ∧ Below w.heap.size w w' := acall_top ty_tab mixed qprim_sound hc (fun q hq => by cases hq) hargs
/-- An argument of several cells, of one cell. -/
theorem rel_agg {W : World} {vs : List V} {v : Value} (h : Cells W (V.agg vs).cells v.cells.toList) (hn : vs.length ≠ 1) : VRel W (whole W) [] (.agg vs) v := by
  cases v with
  | agg ca => exact .agg vs ca (by simpa [V.cells, Value.cells] using h.1) fun k c u hc hu => h.2.2 k c u hc (by simpa [Value.cells] using hu)
  | _ => exact absurd (by simpa [V.cells, Value.cells] using h.1) hn
theorem rel_one {W : World} {x : V} {v : Value} (h : Cells W x.cells v.cells.toList) (hx : x.cells = [x]) (hv : v.cells.toList = [v]) : VRel W (whole W) [] x v := by
  rw [hx, hv] at h
  exact h.2.2 0 x v rfl rfl
end Go.Proofs.Ytpbnnbjkjaajnaa.Pv
