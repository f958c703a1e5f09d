/- Functions of the program, as plain Lean functions, and that the code comes to them: printed by gen.py. -/
import Derived.Test.YtmaabgkgjknhpaaQP
set_option linter.unusedVariables false
set_option linter.unusedSimpArgs false
set_option maxHeartbeats 4000000
set_option maxRecDepth 10000
namespace Go.Proofs.Ytmaabgkgjknhpaa.Pv
open Go Go.Proofs

structure S_api_Unit where
  Path : List UInt8
  Deps : List (List UInt8)
  Public : List Int
  deriving Inhabited, DecidableEq
abbrev S_api_Unit.enc (x : S_api_Unit) : V := .agg [.str x.Path, .sl 1 (List.map V.str x.Deps), .sl 1 (List.map (V.int .i64) x.Public)]
theorem S_api_Unit.cl (m : Nat) (x : S_api_Unit) : V.Cl m (S_api_Unit.enc x) := .agg _ (cl_cons (.str _) (cl_cons (.sl _ _ (cl_map (fun x => .str _))) (cl_cons (.sl _ _ (cl_map (fun x => .int _ _))) cl_nil)))
structure S_graph_wrong where
  path : List UInt8
  e : Int
  deriving Inhabited, DecidableEq
abbrev S_graph_wrong.enc (x : S_graph_wrong) : V := .agg [.str x.path, .int .i64 x.e]
theorem S_graph_wrong.cl (m : Nat) (x : S_graph_wrong) : V.Cl m (S_graph_wrong.enc x) := .agg _ (cl_cons (.str _) (cl_cons (.int _ _) cl_nil))
def S_graph_wrong.dec : V → Option S_graph_wrong
  | .iface 44 (.agg [.str a0, .int .i64 a1]) => some ⟨a0, a1⟩
  | _ => none
theorem S_graph_wrong.dec_eq {v : V} {p : S_graph_wrong} (h : S_graph_wrong.dec v = some p) : v = .iface 44 (S_graph_wrong.enc p) := by
  unfold S_graph_wrong.dec at h
  split at h
  · injection h with h; subst h; rfl
  · cases h
end Go.Proofs.Ytmaabgkgjknhpaa.Pv
