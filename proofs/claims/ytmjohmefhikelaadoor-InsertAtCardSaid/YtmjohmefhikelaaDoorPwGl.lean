/- The package-level variables that the walk leans on: their blocks, and of what kind of integer they are. -/
import Derived.Test.YtmjohmefhikelaaDoorPwB
namespace Go.Proofs.YtmjohmefhikelaaDoor.Pv
open Go
def globs : List (Nat × IntKind) := [(0, .i64)]
def encT (l : List UInt8) : Value := .string ⟨l.toArray⟩
/-- It sorts a slice of texts in place. -/
def SortC (P : Program) (f : FuncId) : Prop :=
  (∃ fn, P.funcs[f]? = some fn ∧ fn.body.isSome = true ∧ (fn.name == "runtime.NumGoroutine") = false) ∧
  (∀ (w : World) (p : Option Addr) (cap : Nat), Calls P f #[.slice p 0 cap] w fun r w' => (∃ v, r = .returned v) ∧ w' = w) ∧
  ∀ (w : World) (b off cap : Nat) (e : TypeId) (cur : Array Value) (l : List (List UInt8)), w.heap[b]? = some (.cells cur e (0, 0)) → (cur.toList.drop off).take l.length = l.map encT → off + l.length ≤ cur.size → l.length < 4611686018427387904 →
    Calls P f #[.slice (some ⟨b, off, none⟩) l.length cap] w fun r w' => (∃ v, r = .returned v) ∧ w'.os = w.os ∧ w'.tape = w.tape ∧ w'.output = w.output ∧ w.heap.size ≤ w'.heap.size ∧ (∀ k, k < w.heap.size → k ≠ b → w'.heap[k]? = w.heap[k]?) ∧
      ∃ cur', w'.heap[b]? = some (.cells cur' e (0, 0)) ∧ cur'.size = cur.size ∧ (∀ k, k < off → cur'[k]? = cur[k]?) ∧ (cur'.toList.drop off).take l.length = (sortT l).map encT
class SortOK (P : Program) : Prop where
  ok : ∀ f ∈ inplace, SortC P f
  /-- Numbers from iterBase on are no function's. -/
  small : P.funcs.size ≤ 1000000
end Go.Proofs.YtmjohmefhikelaaDoor.Pv
