/- From pure runs to the given statements. -/
import Derived.Test.YtblbbmlppmpmjaaRows
import Derived.Test.YtblbbmlppmpmjaaQS
import Derived.ProofKit
import Derived.HandedShaped
import Derived.JoinedCond
set_option linter.unusedVariables false
set_option linter.unusedSimpArgs false
namespace Go.Proofs.Ytblbbmlppmpmjaa.Pv
open Go Go.Proofs Go.ChangeShapes Go.WideShapes Go.ChangeAt Go.RowKit Go.ChangeMaps

theorem own : ownKnob Try.prog.godebug = none := by kernel_rfl
theorem laidOut : laidOutB Try.prog = true := by kernel_rfl
/-- What is covered where a call begins. -/
abbrev whole (w : World) : Nat → Nat := fun x => match w.heap[x]? with | some (.cells c _ _) => c.size | _ => 0
theorem top_call {f : FuncId} {args : List V} (hc : CA qprim f args [] fun r _ => r = .ret (.bool true)) {w : World} (hsh : w.ShapedOpen Try.prog) {cargs : Array Value} (hargs : LRel w (whole w) [] args cargs.toList) :
    Calls Try.prog f cargs w fun e w' => e = .returned (.bool true) ∧ Below w.heap.size w w' := acall_top ty_tab mixed qprim_sound hc (fun q hq => by
      simp only [globs, List.mem_singleton] at hq
      subst hq
      exact Try.laysM219.s1_3 w hsh) hargs
end Go.Proofs.Ytblbbmlppmpmjaa.Pv
