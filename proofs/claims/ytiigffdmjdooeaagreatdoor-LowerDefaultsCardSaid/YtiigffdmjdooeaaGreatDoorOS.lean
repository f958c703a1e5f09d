/- Structs opened, each part by its kind: printed by opener.py. -/
import Derived.Test.YtiigffdmjdooeaaGreatDoorOP
import Derived.Test.YtiigffdmjdooeaaGreatDoorG0
import Derived.Test.YtiigffdmjdooeaaGreatDoorProg
set_option linter.unusedVariables false
set_option linter.unusedSimpArgs false
set_option maxRecDepth 100000
namespace Go.Proofs.YtiigffdmjdooeaaGreatDoor.Pv
open Go Go.Proofs

inductive S_api_Node.Ok : S_api_Node → Prop
  | mk (x : S_api_Node) (h0 : okInt .i64 (x.Kind)) (h1 : List.length (x.Text) ≤ maxLen) (h2 : okInt .i64 (x.N)) (h3 : okInt .i64 (x.M)) (h4 : okInt .i64 (x.A)) (h5 : okInt .i64 (x.At)) (h6 : List.length (x.Doc) ≤ maxLen) (h7 : List.length (x.Kids) ≤ maxLen) (k7 : ∀ a ∈ (x.Kids), S_api_Node.Ok a) : S_api_Node.Ok x
theorem S_api_Node.Ok.all {x : S_api_Node} (h : S_api_Node.Ok x) : okInt .i64 (x.Kind) ∧ List.length (x.Text) ≤ maxLen ∧ okInt .i64 (x.N) ∧ okInt .i64 (x.M) ∧ okInt .i64 (x.A) ∧ okInt .i64 (x.At) ∧ List.length (x.Doc) ≤ maxLen ∧ (List.length (x.Kids) ≤ maxLen ∧ ∀ a ∈ (x.Kids), S_api_Node.Ok a) := by cases h with | mk _ h0 h1 h2 h3 h4 h5 h6 h7 k7 => exact ⟨h0, h1, h2, h3, h4, h5, h6, ⟨h7, k7⟩⟩
theorem S_api_Node.opens {H : Type} {enc : TypeId × Value → H} : ∀ fuel, OpenAt enc Tryz.prog fuel 28 S_api_Node.enc S_api_Node.Ok := by
  intro fuel
  induction fuel using Nat.strongRecOn with
  | ind fuel ih =>
    intro W cs x h
    obtain ⟨xs, n, hn, _, hl, hxl, hf⟩ := DataW.trod_struct Tryz.underlying28 h
    replace hl : cs.length = 8 := by rw [hl]; kernel_rfl
    replace hxl : xs.length = 8 := hxl
    match cs, hl, xs, hxl, hf with
    | [c0, c1, c2, c3, c4, c5, c6, c7], _, [x0, x1, x2, x3, x4, x5, x6, x7], _, hf =>
      have f0 := hf 0 _ rfl
      replace f0 : DataW.trod enc Tryz.prog W 0 (fun _ => true) true n 3 [c0] = some x0 := by rw [show [c0] = (List.drop 0 [c0, c1, c2, c3, c4, c5, c6, c7]).take (Tryz.prog.cellsOf 3) by rw [show Tryz.prog.cellsOf 3 = 1 by kernel_rfl]; rfl]; exact f0
      obtain ⟨a0, r0, o0⟩ := ((openAt_int Tryz.underlying3) : OpenAt enc Tryz.prog n 3 (V.int .i64) (okInt .i64)) W _ _ f0
      have f1 := hf 1 _ rfl
      replace f1 : DataW.trod enc Tryz.prog W 0 (fun _ => true) true n 9 [c1] = some x1 := by rw [show [c1] = (List.drop 1 [c0, c1, c2, c3, c4, c5, c6, c7]).take (Tryz.prog.cellsOf 9) by rw [show Tryz.prog.cellsOf 9 = 1 by kernel_rfl]; rfl]; exact f1
      obtain ⟨a1, r1, o1⟩ := ((openAt_str Tryz.underlying9) : OpenAt enc Tryz.prog n 9 V.str (fun x => List.length x ≤ maxLen)) W _ _ f1
      have f2 := hf 2 _ rfl
      replace f2 : DataW.trod enc Tryz.prog W 0 (fun _ => true) true n 2 [c2] = some x2 := by rw [show [c2] = (List.drop 2 [c0, c1, c2, c3, c4, c5, c6, c7]).take (Tryz.prog.cellsOf 2) by rw [show Tryz.prog.cellsOf 2 = 1 by kernel_rfl]; rfl]; exact f2
      obtain ⟨a2, r2, o2⟩ := ((openAt_int Tryz.underlying2) : OpenAt enc Tryz.prog n 2 (V.int .i64) (okInt .i64)) W _ _ f2
      have f3 := hf 3 _ rfl
      replace f3 : DataW.trod enc Tryz.prog W 0 (fun _ => true) true n 2 [c3] = some x3 := by rw [show [c3] = (List.drop 3 [c0, c1, c2, c3, c4, c5, c6, c7]).take (Tryz.prog.cellsOf 2) by rw [show Tryz.prog.cellsOf 2 = 1 by kernel_rfl]; rfl]; exact f3
      obtain ⟨a3, r3, o3⟩ := ((openAt_int Tryz.underlying2) : OpenAt enc Tryz.prog n 2 (V.int .i64) (okInt .i64)) W _ _ f3
      have f4 := hf 4 _ rfl
      replace f4 : DataW.trod enc Tryz.prog W 0 (fun _ => true) true n 3 [c4] = some x4 := by rw [show [c4] = (List.drop 4 [c0, c1, c2, c3, c4, c5, c6, c7]).take (Tryz.prog.cellsOf 3) by rw [show Tryz.prog.cellsOf 3 = 1 by kernel_rfl]; rfl]; exact f4
      obtain ⟨a4, r4, o4⟩ := ((openAt_int Tryz.underlying3) : OpenAt enc Tryz.prog n 3 (V.int .i64) (okInt .i64)) W _ _ f4
      have f5 := hf 5 _ rfl
      replace f5 : DataW.trod enc Tryz.prog W 0 (fun _ => true) true n 3 [c5] = some x5 := by rw [show [c5] = (List.drop 5 [c0, c1, c2, c3, c4, c5, c6, c7]).take (Tryz.prog.cellsOf 3) by rw [show Tryz.prog.cellsOf 3 = 1 by kernel_rfl]; rfl]; exact f5
      obtain ⟨a5, r5, o5⟩ := ((openAt_int Tryz.underlying3) : OpenAt enc Tryz.prog n 3 (V.int .i64) (okInt .i64)) W _ _ f5
      have f6 := hf 6 _ rfl
      replace f6 : DataW.trod enc Tryz.prog W 0 (fun _ => true) true n 9 [c6] = some x6 := by rw [show [c6] = (List.drop 6 [c0, c1, c2, c3, c4, c5, c6, c7]).take (Tryz.prog.cellsOf 9) by rw [show Tryz.prog.cellsOf 9 = 1 by kernel_rfl]; rfl]; exact f6
      obtain ⟨a6, r6, o6⟩ := ((openAt_str Tryz.underlying9) : OpenAt enc Tryz.prog n 9 V.str (fun x => List.length x ≤ maxLen)) W _ _ f6
      have f7 := hf 7 _ rfl
      replace f7 : DataW.trod enc Tryz.prog W 0 (fun _ => true) true n 26 [c7] = some x7 := by rw [show [c7] = (List.drop 7 [c0, c1, c2, c3, c4, c5, c6, c7]).take (Tryz.prog.cellsOf 26) by rw [show Tryz.prog.cellsOf 26 = 1 by kernel_rfl]; rfl]; exact f7
      obtain ⟨a7, r7, o7⟩ := ((openAt_slice (sz := 8) (e := 28) (f := S_api_Node.enc) (ok := S_api_Node.Ok) Tryz.underlying26 (by kernel_rfl) (by decide) (fun a => by rw [S_api_Node.enc_eq]; rfl) (fun m hm => ih m (by omega))) : OpenAt enc Tryz.prog n 26 (fun x => V.sl 8 (List.map S_api_Node.enc x)) (fun x => (List.length x ≤ maxLen ∧ ∀ a ∈ x, S_api_Node.Ok a))) W _ _ f7
      exact ⟨⟨a0, a1, a2, a3, a4, a5, a6, a7⟩, by rw [S_api_Node.enc_eq]; exact (r0.append (r1.append (r2.append (r3.append (r4.append (r5.append (r6.append r7))))))), .mk _ o0 o1 o2 o3 o4 o5 o6 o7.1 o7.2⟩
end Go.Proofs.YtiigffdmjdooeaaGreatDoor.Pv
