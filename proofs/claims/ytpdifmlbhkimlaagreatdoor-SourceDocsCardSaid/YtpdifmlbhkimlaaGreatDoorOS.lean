/- Structs opened, each part by its kind: printed by opener.py. -/
import Derived.Test.YtpdifmlbhkimlaaGreatDoorOP
import Derived.Test.YtpdifmlbhkimlaaGreatDoorG0
import Derived.Test.YtpdifmlbhkimlaaGreatDoorProg
set_option linter.unusedVariables false
set_option linter.unusedSimpArgs false
set_option maxRecDepth 100000
namespace Go.Proofs.YtpdifmlbhkimlaaGreatDoor.Pv
open Go Go.Proofs

def S_api_Location.Ok (x : S_api_Location) : Prop := (List.length (x.Path) ≤ maxLen ∧ ∀ a ∈ (x.Path), okInt .i64 a) ∧ okInt .i64 (x.Line) ∧ okInt .i64 (x.Column) ∧ List.length (x.Doc) ≤ maxLen
theorem S_api_Location.opens {H : Type} {enc : TypeId × Value → H} : ∀ fuel, OpenAt enc Tryz.prog fuel 34 S_api_Location.enc S_api_Location.Ok := by
  intro fuel
  induction fuel using Nat.strongRecOn with
  | ind fuel ih =>
    intro W cs x h
    obtain ⟨xs, n, hn, _, hl, hxl, hf⟩ := DataW.trod_struct Tryz.underlying34 h
    replace hl : cs.length = 4 := by rw [hl]; kernel_rfl
    replace hxl : xs.length = 4 := hxl
    match cs, hl, xs, hxl, hf with
    | [c0, c1, c2, c3], _, [x0, x1, x2, x3], _, hf =>
      have f0 := hf 0 _ rfl
      replace f0 : DataW.trod enc Tryz.prog W 0 (fun _ => true) true n 23 [c0] = some x0 := by rw [show [c0] = (List.drop 0 [c0, c1, c2, c3]).take (Tryz.prog.cellsOf 23) by rw [show Tryz.prog.cellsOf 23 = 1 by kernel_rfl]; rfl]; exact f0
      obtain ⟨a0, r0, o0⟩ := ((openAt_slice (sz := 1) (e := 3) (f := (V.int .i64)) (ok := (okInt .i64)) Tryz.underlying23 (by kernel_rfl) (by decide) (fun a => rfl) (fun m hm => (openAt_int Tryz.underlying3))) : OpenAt enc Tryz.prog n 23 (fun x => V.sl 1 (List.map (V.int .i64) x)) (fun x => (List.length x ≤ maxLen ∧ ∀ a ∈ x, okInt .i64 a))) W _ _ f0
      have f1 := hf 1 _ rfl
      replace f1 : DataW.trod enc Tryz.prog W 0 (fun _ => true) true n 3 [c1] = some x1 := by rw [show [c1] = (List.drop 1 [c0, c1, c2, c3]).take (Tryz.prog.cellsOf 3) by rw [show Tryz.prog.cellsOf 3 = 1 by kernel_rfl]; rfl]; exact f1
      obtain ⟨a1, r1, o1⟩ := ((openAt_int Tryz.underlying3) : OpenAt enc Tryz.prog n 3 (V.int .i64) (okInt .i64)) W _ _ f1
      have f2 := hf 2 _ rfl
      replace f2 : DataW.trod enc Tryz.prog W 0 (fun _ => true) true n 3 [c2] = some x2 := by rw [show [c2] = (List.drop 2 [c0, c1, c2, c3]).take (Tryz.prog.cellsOf 3) by rw [show Tryz.prog.cellsOf 3 = 1 by kernel_rfl]; rfl]; exact f2
      obtain ⟨a2, r2, o2⟩ := ((openAt_int Tryz.underlying3) : OpenAt enc Tryz.prog n 3 (V.int .i64) (okInt .i64)) W _ _ f2
      have f3 := hf 3 _ rfl
      replace f3 : DataW.trod enc Tryz.prog W 0 (fun _ => true) true n 9 [c3] = some x3 := by rw [show [c3] = (List.drop 3 [c0, c1, c2, c3]).take (Tryz.prog.cellsOf 9) by rw [show Tryz.prog.cellsOf 9 = 1 by kernel_rfl]; rfl]; exact f3
      obtain ⟨a3, r3, o3⟩ := ((openAt_str Tryz.underlying9) : OpenAt enc Tryz.prog n 9 V.str (fun x => List.length x ≤ maxLen)) W _ _ f3
      exact ⟨⟨a0, a1, a2, a3⟩, by exact (r0.append (r1.append (r2.append r3))), ⟨o0, o1, o2, o3⟩⟩
end Go.Proofs.YtpdifmlbhkimlaaGreatDoor.Pv
