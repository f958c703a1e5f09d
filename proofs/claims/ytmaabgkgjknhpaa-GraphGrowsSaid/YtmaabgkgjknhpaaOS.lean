/- Structs opened, each part by its kind: printed by opener.py. -/
import Derived.Test.YtmaabgkgjknhpaaOP
import Derived.Test.YtmaabgkgjknhpaaG0
import Derived.Test.YtmaabgkgjknhpaaProg
set_option linter.unusedVariables false
set_option linter.unusedSimpArgs false
set_option maxRecDepth 100000
namespace Go.Proofs.Ytmaabgkgjknhpaa.Pv
open Go Go.Proofs

def S_api_Unit.Ok (x : S_api_Unit) : Prop := List.length (x.Path) ≤ maxLen ∧ (List.length (x.Deps) ≤ maxLen ∧ ∀ a ∈ (x.Deps), List.length a ≤ maxLen) ∧ (List.length (x.Public) ≤ maxLen ∧ ∀ a ∈ (x.Public), okInt .i64 a)
theorem S_api_Unit.opens {H : Type} {enc : TypeId × Value → H} : ∀ fuel, OpenAt enc Try.prog fuel 39 S_api_Unit.enc S_api_Unit.Ok := by
  intro fuel
  induction fuel using Nat.strongRecOn with
  | ind fuel ih =>
    intro W cs x h
    obtain ⟨xs, n, hn, _, hl, hxl, hf⟩ := DataW.trod_struct Try.underlying39 h
    replace hl : cs.length = 3 := by rw [hl]; kernel_rfl
    replace hxl : xs.length = 3 := hxl
    match cs, hl, xs, hxl, hf with
    | [c0, c1, c2], _, [x0, x1, x2], _, hf =>
      have f0 := hf 0 _ rfl
      replace f0 : DataW.trod enc Try.prog W 0 (fun _ => true) true n 9 [c0] = some x0 := by rw [show [c0] = (List.drop 0 [c0, c1, c2]).take (Try.prog.cellsOf 9) by rw [show Try.prog.cellsOf 9 = 1 by kernel_rfl]; rfl]; exact f0
      obtain ⟨a0, r0, o0⟩ := ((openAt_str Try.underlying9) : OpenAt enc Try.prog n 9 V.str (fun x => List.length x ≤ maxLen)) W _ _ f0
      have f1 := hf 1 _ rfl
      replace f1 : DataW.trod enc Try.prog W 0 (fun _ => true) true n 23 [c1] = some x1 := by rw [show [c1] = (List.drop 1 [c0, c1, c2]).take (Try.prog.cellsOf 23) by rw [show Try.prog.cellsOf 23 = 1 by kernel_rfl]; rfl]; exact f1
      obtain ⟨a1, r1, o1⟩ := ((openAt_slice (sz := 1) (e := 9) (f := V.str) (ok := (fun x => List.length x ≤ maxLen)) Try.underlying23 (by kernel_rfl) (by decide) (fun a => rfl) (fun m hm => (openAt_str Try.underlying9))) : OpenAt enc Try.prog n 23 (fun x => V.sl 1 (List.map V.str x)) (fun x => (List.length x ≤ maxLen ∧ ∀ a ∈ x, List.length a ≤ maxLen))) W _ _ f1
      have f2 := hf 2 _ rfl
      replace f2 : DataW.trod enc Try.prog W 0 (fun _ => true) true n 37 [c2] = some x2 := by rw [show [c2] = (List.drop 2 [c0, c1, c2]).take (Try.prog.cellsOf 37) by rw [show Try.prog.cellsOf 37 = 1 by kernel_rfl]; rfl]; exact f2
      obtain ⟨a2, r2, o2⟩ := ((openAt_slice (sz := 1) (e := 3) (f := (V.int .i64)) (ok := (okInt .i64)) Try.underlying37 (by kernel_rfl) (by decide) (fun a => rfl) (fun m hm => (openAt_int Try.underlying3))) : OpenAt enc Try.prog n 37 (fun x => V.sl 1 (List.map (V.int .i64) x)) (fun x => (List.length x ≤ maxLen ∧ ∀ a ∈ x, okInt .i64 a))) W _ _ f2
      exact ⟨⟨a0, a1, a2⟩, by exact (r0.append (r1.append r2)), ⟨o0, o1, o2⟩⟩
end Go.Proofs.Ytmaabgkgjknhpaa.Pv
