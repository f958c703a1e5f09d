/- Structs opened, each part by its kind: printed by opener.py. -/
import Derived.Test.YtpbnnbjkjaajnaaOP
import Derived.Test.YtpbnnbjkjaajnaaG0
import Derived.Test.YtpbnnbjkjaajnaaProg
set_option linter.unusedVariables false
set_option linter.unusedSimpArgs false
set_option maxRecDepth 100000
namespace Go.Proofs.Ytpbnnbjkjaajnaa.Pv
open Go Go.Proofs

def S_api_Field.Ok (x : S_api_Field) : Prop := List.length (x.Name) ≤ maxLen ∧ okInt .i64 (x.Number) ∧ okInt .i64 (x.Label) ∧ okInt .i64 (x.Type_) ∧ List.length (x.TypeName) ≤ maxLen ∧ List.length (x.Extendee) ≤ maxLen ∧ List.length (x.Default) ≤ maxLen ∧ True ∧ okInt .i64 (x.Oneof) ∧ List.length (x.Json) ≤ maxLen ∧ True ∧ (List.length (x.Options) ≤ maxLen ∧ ∀ a ∈ (x.Options), True) ∧ (List.length (x.Unknown) ≤ maxLen ∧ ∀ a ∈ (x.Unknown), True)
theorem S_api_Field.opens {H : Type} {enc : TypeId × Value → H} : ∀ fuel, OpenAt enc Try.prog fuel 48 S_api_Field.enc S_api_Field.Ok := by
  intro fuel
  induction fuel using Nat.strongRecOn with
  | ind fuel ih =>
    intro W cs x h
    obtain ⟨xs, n, hn, _, hl, hxl, hf⟩ := DataW.trod_struct Try.underlying48 h
    replace hl : cs.length = 13 := by rw [hl]; kernel_rfl
    replace hxl : xs.length = 13 := hxl
    match cs, hl, xs, hxl, hf with
    | [c0, c1, c2, c3, c4, c5, c6, c7, c8, c9, c10, c11, c12], _, [x0, x1, x2, x3, x4, x5, x6, x7, x8, x9, x10, x11, x12], _, hf =>
      have f0 := hf 0 _ rfl
      replace f0 : DataW.trod enc Try.prog W 0 (fun _ => true) true n 9 [c0] = some x0 := by rw [show [c0] = (List.drop 0 [c0, c1, c2, c3, c4, c5, c6, c7, c8, c9, c10, c11, c12]).take (Try.prog.cellsOf 9) by rw [show Try.prog.cellsOf 9 = 1 by kernel_rfl]; rfl]; exact f0
      obtain ⟨a0, r0, o0⟩ := ((openAt_str Try.underlying9) : OpenAt enc Try.prog n 9 V.str (fun x => List.length x ≤ maxLen)) W _ _ f0
      have f1 := hf 1 _ rfl
      replace f1 : DataW.trod enc Try.prog W 0 (fun _ => true) true n 2 [c1] = some x1 := by rw [show [c1] = (List.drop 1 [c0, c1, c2, c3, c4, c5, c6, c7, c8, c9, c10, c11, c12]).take (Try.prog.cellsOf 2) by rw [show Try.prog.cellsOf 2 = 1 by kernel_rfl]; rfl]; exact f1
      obtain ⟨a1, r1, o1⟩ := ((openAt_int Try.underlying2) : OpenAt enc Try.prog n 2 (V.int .i64) (okInt .i64)) W _ _ f1
      have f2 := hf 2 _ rfl
      replace f2 : DataW.trod enc Try.prog W 0 (fun _ => true) true n 3 [c2] = some x2 := by rw [show [c2] = (List.drop 2 [c0, c1, c2, c3, c4, c5, c6, c7, c8, c9, c10, c11, c12]).take (Try.prog.cellsOf 3) by rw [show Try.prog.cellsOf 3 = 1 by kernel_rfl]; rfl]; exact f2
      obtain ⟨a2, r2, o2⟩ := ((openAt_int Try.underlying3) : OpenAt enc Try.prog n 3 (V.int .i64) (okInt .i64)) W _ _ f2
      have f3 := hf 3 _ rfl
      replace f3 : DataW.trod enc Try.prog W 0 (fun _ => true) true n 3 [c3] = some x3 := by rw [show [c3] = (List.drop 3 [c0, c1, c2, c3, c4, c5, c6, c7, c8, c9, c10, c11, c12]).take (Try.prog.cellsOf 3) by rw [show Try.prog.cellsOf 3 = 1 by kernel_rfl]; rfl]; exact f3
      obtain ⟨a3, r3, o3⟩ := ((openAt_int Try.underlying3) : OpenAt enc Try.prog n 3 (V.int .i64) (okInt .i64)) W _ _ f3
      have f4 := hf 4 _ rfl
      replace f4 : DataW.trod enc Try.prog W 0 (fun _ => true) true n 9 [c4] = some x4 := by rw [show [c4] = (List.drop 4 [c0, c1, c2, c3, c4, c5, c6, c7, c8, c9, c10, c11, c12]).take (Try.prog.cellsOf 9) by rw [show Try.prog.cellsOf 9 = 1 by kernel_rfl]; rfl]; exact f4
      obtain ⟨a4, r4, o4⟩ := ((openAt_str Try.underlying9) : OpenAt enc Try.prog n 9 V.str (fun x => List.length x ≤ maxLen)) W _ _ f4
      have f5 := hf 5 _ rfl
      replace f5 : DataW.trod enc Try.prog W 0 (fun _ => true) true n 9 [c5] = some x5 := by rw [show [c5] = (List.drop 5 [c0, c1, c2, c3, c4, c5, c6, c7, c8, c9, c10, c11, c12]).take (Try.prog.cellsOf 9) by rw [show Try.prog.cellsOf 9 = 1 by kernel_rfl]; rfl]; exact f5
      obtain ⟨a5, r5, o5⟩ := ((openAt_str Try.underlying9) : OpenAt enc Try.prog n 9 V.str (fun x => List.length x ≤ maxLen)) W _ _ f5
      have f6 := hf 6 _ rfl
      replace f6 : DataW.trod enc Try.prog W 0 (fun _ => true) true n 9 [c6] = some x6 := by rw [show [c6] = (List.drop 6 [c0, c1, c2, c3, c4, c5, c6, c7, c8, c9, c10, c11, c12]).take (Try.prog.cellsOf 9) by rw [show Try.prog.cellsOf 9 = 1 by kernel_rfl]; rfl]; exact f6
      obtain ⟨a6, r6, o6⟩ := ((openAt_str Try.underlying9) : OpenAt enc Try.prog n 9 V.str (fun x => List.length x ≤ maxLen)) W _ _ f6
      have f7 := hf 7 _ rfl
      replace f7 : DataW.trod enc Try.prog W 0 (fun _ => true) true n 4 [c7] = some x7 := by rw [show [c7] = (List.drop 7 [c0, c1, c2, c3, c4, c5, c6, c7, c8, c9, c10, c11, c12]).take (Try.prog.cellsOf 4) by rw [show Try.prog.cellsOf 4 = 1 by kernel_rfl]; rfl]; exact f7
      obtain ⟨a7, r7, o7⟩ := ((openAt_bool Try.underlying4) : OpenAt enc Try.prog n 4 V.bool (fun _ => True)) W _ _ f7
      have f8 := hf 8 _ rfl
      replace f8 : DataW.trod enc Try.prog W 0 (fun _ => true) true n 3 [c8] = some x8 := by rw [show [c8] = (List.drop 8 [c0, c1, c2, c3, c4, c5, c6, c7, c8, c9, c10, c11, c12]).take (Try.prog.cellsOf 3) by rw [show Try.prog.cellsOf 3 = 1 by kernel_rfl]; rfl]; exact f8
      obtain ⟨a8, r8, o8⟩ := ((openAt_int Try.underlying3) : OpenAt enc Try.prog n 3 (V.int .i64) (okInt .i64)) W _ _ f8
      have f9 := hf 9 _ rfl
      replace f9 : DataW.trod enc Try.prog W 0 (fun _ => true) true n 9 [c9] = some x9 := by rw [show [c9] = (List.drop 9 [c0, c1, c2, c3, c4, c5, c6, c7, c8, c9, c10, c11, c12]).take (Try.prog.cellsOf 9) by rw [show Try.prog.cellsOf 9 = 1 by kernel_rfl]; rfl]; exact f9
      obtain ⟨a9, r9, o9⟩ := ((openAt_str Try.underlying9) : OpenAt enc Try.prog n 9 V.str (fun x => List.length x ≤ maxLen)) W _ _ f9
      have f10 := hf 10 _ rfl
      replace f10 : DataW.trod enc Try.prog W 0 (fun _ => true) true n 4 [c10] = some x10 := by rw [show [c10] = (List.drop 10 [c0, c1, c2, c3, c4, c5, c6, c7, c8, c9, c10, c11, c12]).take (Try.prog.cellsOf 4) by rw [show Try.prog.cellsOf 4 = 1 by kernel_rfl]; rfl]; exact f10
      obtain ⟨a10, r10, o10⟩ := ((openAt_bool Try.underlying4) : OpenAt enc Try.prog n 4 V.bool (fun _ => True)) W _ _ f10
      have f11 := hf 11 _ rfl
      replace f11 : DataW.trod enc Try.prog W 0 (fun _ => true) true n 28 [c11] = some x11 := by rw [show [c11] = (List.drop 11 [c0, c1, c2, c3, c4, c5, c6, c7, c8, c9, c10, c11, c12]).take (Try.prog.cellsOf 28) by rw [show Try.prog.cellsOf 28 = 1 by kernel_rfl]; rfl]; exact f11
      obtain ⟨a11, r11, o11⟩ := ((openAt_slice (sz := 1) (e := 5) (f := byteV) (ok := (fun _ => True)) Try.underlying28 (by kernel_rfl) (by decide) (fun a => rfl) (fun m hm => (openAt_byte Try.underlying5))) : OpenAt enc Try.prog n 28 (fun x => V.sl 1 (List.map byteV x)) (fun x => (List.length x ≤ maxLen ∧ ∀ a ∈ x, True))) W _ _ f11
      have f12 := hf 12 _ rfl
      replace f12 : DataW.trod enc Try.prog W 0 (fun _ => true) true n 28 [c12] = some x12 := by rw [show [c12] = (List.drop 12 [c0, c1, c2, c3, c4, c5, c6, c7, c8, c9, c10, c11, c12]).take (Try.prog.cellsOf 28) by rw [show Try.prog.cellsOf 28 = 1 by kernel_rfl]; rfl]; exact f12
      obtain ⟨a12, r12, o12⟩ := ((openAt_slice (sz := 1) (e := 5) (f := byteV) (ok := (fun _ => True)) Try.underlying28 (by kernel_rfl) (by decide) (fun a => rfl) (fun m hm => (openAt_byte Try.underlying5))) : OpenAt enc Try.prog n 28 (fun x => V.sl 1 (List.map byteV x)) (fun x => (List.length x ≤ maxLen ∧ ∀ a ∈ x, True))) W _ _ f12
      exact ⟨⟨a0, a1, a2, a3, a4, a5, a6, a7, a8, a9, a10, a11, a12⟩, by exact (r0.append (r1.append (r2.append (r3.append (r4.append (r5.append (r6.append (r7.append (r8.append (r9.append (r10.append (r11.append r12)))))))))))), ⟨o0, o1, o2, o3, o4, o5, o6, o7, o8, o9, o10, o11, o12⟩⟩
def S_api_Value.Ok (x : S_api_Value) : Prop := List.length (x.Name) ≤ maxLen ∧ okInt .i64 (x.Number) ∧ (List.length (x.Options) ≤ maxLen ∧ ∀ a ∈ (x.Options), True) ∧ (List.length (x.Unknown) ≤ maxLen ∧ ∀ a ∈ (x.Unknown), True)
theorem S_api_Value.opens {H : Type} {enc : TypeId × Value → H} : ∀ fuel, OpenAt enc Try.prog fuel 122 S_api_Value.enc S_api_Value.Ok := by
  intro fuel
  induction fuel using Nat.strongRecOn with
  | ind fuel ih =>
    intro W cs x h
    obtain ⟨xs, n, hn, _, hl, hxl, hf⟩ := DataW.trod_struct Try.underlying122 h
    replace hl : cs.length = 4 := by rw [hl]; kernel_rfl
    replace hxl : xs.length = 4 := hxl
    match cs, hl, xs, hxl, hf with
    | [c0, c1, c2, c3], _, [x0, x1, x2, x3], _, hf =>
      have f0 := hf 0 _ rfl
      replace f0 : DataW.trod enc Try.prog W 0 (fun _ => true) true n 9 [c0] = some x0 := by rw [show [c0] = (List.drop 0 [c0, c1, c2, c3]).take (Try.prog.cellsOf 9) by rw [show Try.prog.cellsOf 9 = 1 by kernel_rfl]; rfl]; exact f0
      obtain ⟨a0, r0, o0⟩ := ((openAt_str Try.underlying9) : OpenAt enc Try.prog n 9 V.str (fun x => List.length x ≤ maxLen)) W _ _ f0
      have f1 := hf 1 _ rfl
      replace f1 : DataW.trod enc Try.prog W 0 (fun _ => true) true n 2 [c1] = some x1 := by rw [show [c1] = (List.drop 1 [c0, c1, c2, c3]).take (Try.prog.cellsOf 2) by rw [show Try.prog.cellsOf 2 = 1 by kernel_rfl]; rfl]; exact f1
      obtain ⟨a1, r1, o1⟩ := ((openAt_int Try.underlying2) : OpenAt enc Try.prog n 2 (V.int .i64) (okInt .i64)) W _ _ f1
      have f2 := hf 2 _ rfl
      replace f2 : DataW.trod enc Try.prog W 0 (fun _ => true) true n 28 [c2] = some x2 := by rw [show [c2] = (List.drop 2 [c0, c1, c2, c3]).take (Try.prog.cellsOf 28) by rw [show Try.prog.cellsOf 28 = 1 by kernel_rfl]; rfl]; exact f2
      obtain ⟨a2, r2, o2⟩ := ((openAt_slice (sz := 1) (e := 5) (f := byteV) (ok := (fun _ => True)) Try.underlying28 (by kernel_rfl) (by decide) (fun a => rfl) (fun m hm => (openAt_byte Try.underlying5))) : OpenAt enc Try.prog n 28 (fun x => V.sl 1 (List.map byteV x)) (fun x => (List.length x ≤ maxLen ∧ ∀ a ∈ x, True))) W _ _ f2
      have f3 := hf 3 _ rfl
      replace f3 : DataW.trod enc Try.prog W 0 (fun _ => true) true n 28 [c3] = some x3 := by rw [show [c3] = (List.drop 3 [c0, c1, c2, c3]).take (Try.prog.cellsOf 28) by rw [show Try.prog.cellsOf 28 = 1 by kernel_rfl]; rfl]; exact f3
      obtain ⟨a3, r3, o3⟩ := ((openAt_slice (sz := 1) (e := 5) (f := byteV) (ok := (fun _ => True)) Try.underlying28 (by kernel_rfl) (by decide) (fun a => rfl) (fun m hm => (openAt_byte Try.underlying5))) : OpenAt enc Try.prog n 28 (fun x => V.sl 1 (List.map byteV x)) (fun x => (List.length x ≤ maxLen ∧ ∀ a ∈ x, True))) W _ _ f3
      exact ⟨⟨a0, a1, a2, a3⟩, by exact (r0.append (r1.append (r2.append r3))), ⟨o0, o1, o2, o3⟩⟩
def S_api_Enum.Ok (x : S_api_Enum) : Prop := List.length (x.Name) ≤ maxLen ∧ (List.length (x.Values) ≤ maxLen ∧ ∀ a ∈ (x.Values), S_api_Value.Ok a) ∧ (List.length (x.Options) ≤ maxLen ∧ ∀ a ∈ (x.Options), True) ∧ (List.length (x.Unknown) ≤ maxLen ∧ ∀ a ∈ (x.Unknown), True)
theorem S_api_Enum.opens {H : Type} {enc : TypeId × Value → H} : ∀ fuel, OpenAt enc Try.prog fuel 44 S_api_Enum.enc S_api_Enum.Ok := by
  intro fuel
  induction fuel using Nat.strongRecOn with
  | ind fuel ih =>
    intro W cs x h
    obtain ⟨xs, n, hn, _, hl, hxl, hf⟩ := DataW.trod_struct Try.underlying44 h
    replace hl : cs.length = 4 := by rw [hl]; kernel_rfl
    replace hxl : xs.length = 4 := hxl
    match cs, hl, xs, hxl, hf with
    | [c0, c1, c2, c3], _, [x0, x1, x2, x3], _, hf =>
      have f0 := hf 0 _ rfl
      replace f0 : DataW.trod enc Try.prog W 0 (fun _ => true) true n 9 [c0] = some x0 := by rw [show [c0] = (List.drop 0 [c0, c1, c2, c3]).take (Try.prog.cellsOf 9) by rw [show Try.prog.cellsOf 9 = 1 by kernel_rfl]; rfl]; exact f0
      obtain ⟨a0, r0, o0⟩ := ((openAt_str Try.underlying9) : OpenAt enc Try.prog n 9 V.str (fun x => List.length x ≤ maxLen)) W _ _ f0
      have f1 := hf 1 _ rfl
      replace f1 : DataW.trod enc Try.prog W 0 (fun _ => true) true n 42 [c1] = some x1 := by rw [show [c1] = (List.drop 1 [c0, c1, c2, c3]).take (Try.prog.cellsOf 42) by rw [show Try.prog.cellsOf 42 = 1 by kernel_rfl]; rfl]; exact f1
      obtain ⟨a1, r1, o1⟩ := ((openAt_slice (sz := 4) (e := 122) (f := S_api_Value.enc) (ok := S_api_Value.Ok) Try.underlying42 (by kernel_rfl) (by decide) (fun a => rfl) (fun m hm => (S_api_Value.opens _))) : OpenAt enc Try.prog n 42 (fun x => V.sl 4 (List.map S_api_Value.enc x)) (fun x => (List.length x ≤ maxLen ∧ ∀ a ∈ x, S_api_Value.Ok a))) W _ _ f1
      have f2 := hf 2 _ rfl
      replace f2 : DataW.trod enc Try.prog W 0 (fun _ => true) true n 28 [c2] = some x2 := by rw [show [c2] = (List.drop 2 [c0, c1, c2, c3]).take (Try.prog.cellsOf 28) by rw [show Try.prog.cellsOf 28 = 1 by kernel_rfl]; rfl]; exact f2
      obtain ⟨a2, r2, o2⟩ := ((openAt_slice (sz := 1) (e := 5) (f := byteV) (ok := (fun _ => True)) Try.underlying28 (by kernel_rfl) (by decide) (fun a => rfl) (fun m hm => (openAt_byte Try.underlying5))) : OpenAt enc Try.prog n 28 (fun x => V.sl 1 (List.map byteV x)) (fun x => (List.length x ≤ maxLen ∧ ∀ a ∈ x, True))) W _ _ f2
      have f3 := hf 3 _ rfl
      replace f3 : DataW.trod enc Try.prog W 0 (fun _ => true) true n 28 [c3] = some x3 := by rw [show [c3] = (List.drop 3 [c0, c1, c2, c3]).take (Try.prog.cellsOf 28) by rw [show Try.prog.cellsOf 28 = 1 by kernel_rfl]; rfl]; exact f3
      obtain ⟨a3, r3, o3⟩ := ((openAt_slice (sz := 1) (e := 5) (f := byteV) (ok := (fun _ => True)) Try.underlying28 (by kernel_rfl) (by decide) (fun a => rfl) (fun m hm => (openAt_byte Try.underlying5))) : OpenAt enc Try.prog n 28 (fun x => V.sl 1 (List.map byteV x)) (fun x => (List.length x ≤ maxLen ∧ ∀ a ∈ x, True))) W _ _ f3
      exact ⟨⟨a0, a1, a2, a3⟩, by exact (r0.append (r1.append (r2.append r3))), ⟨o0, o1, o2, o3⟩⟩
def S_api_Range.Ok (x : S_api_Range) : Prop := okInt .i64 (x.From) ∧ okInt .i64 (x.To)
theorem S_api_Range.opens {H : Type} {enc : TypeId × Value → H} : ∀ fuel, OpenAt enc Try.prog fuel 115 S_api_Range.enc S_api_Range.Ok := by
  intro fuel
  induction fuel using Nat.strongRecOn with
  | ind fuel ih =>
    intro W cs x h
    obtain ⟨xs, n, hn, _, hl, hxl, hf⟩ := DataW.trod_struct Try.underlying115 h
    replace hl : cs.length = 2 := by rw [hl]; kernel_rfl
    replace hxl : xs.length = 2 := hxl
    match cs, hl, xs, hxl, hf with
    | [c0, c1], _, [x0, x1], _, hf =>
      have f0 := hf 0 _ rfl
      replace f0 : DataW.trod enc Try.prog W 0 (fun _ => true) true n 2 [c0] = some x0 := by rw [show [c0] = (List.drop 0 [c0, c1]).take (Try.prog.cellsOf 2) by rw [show Try.prog.cellsOf 2 = 1 by kernel_rfl]; rfl]; exact f0
      obtain ⟨a0, r0, o0⟩ := ((openAt_int Try.underlying2) : OpenAt enc Try.prog n 2 (V.int .i64) (okInt .i64)) W _ _ f0
      have f1 := hf 1 _ rfl
      replace f1 : DataW.trod enc Try.prog W 0 (fun _ => true) true n 2 [c1] = some x1 := by rw [show [c1] = (List.drop 1 [c0, c1]).take (Try.prog.cellsOf 2) by rw [show Try.prog.cellsOf 2 = 1 by kernel_rfl]; rfl]; exact f1
      obtain ⟨a1, r1, o1⟩ := ((openAt_int Try.underlying2) : OpenAt enc Try.prog n 2 (V.int .i64) (okInt .i64)) W _ _ f1
      exact ⟨⟨a0, a1⟩, by exact (r0.append r1), ⟨o0, o1⟩⟩
def S_api_Oneof.Ok (x : S_api_Oneof) : Prop := List.length (x.Name) ≤ maxLen ∧ (List.length (x.Options) ≤ maxLen ∧ ∀ a ∈ (x.Options), True) ∧ (List.length (x.Unknown) ≤ maxLen ∧ ∀ a ∈ (x.Unknown), True)
theorem S_api_Oneof.opens {H : Type} {enc : TypeId × Value → H} : ∀ fuel, OpenAt enc Try.prog fuel 118 S_api_Oneof.enc S_api_Oneof.Ok := by
  intro fuel
  induction fuel using Nat.strongRecOn with
  | ind fuel ih =>
    intro W cs x h
    obtain ⟨xs, n, hn, _, hl, hxl, hf⟩ := DataW.trod_struct Try.underlying118 h
    replace hl : cs.length = 3 := by rw [hl]; kernel_rfl
    replace hxl : xs.length = 3 := hxl
    match cs, hl, xs, hxl, hf with
    | [c0, c1, c2], _, [x0, x1, x2], _, hf =>
      have f0 := hf 0 _ rfl
      replace f0 : DataW.trod enc Try.prog W 0 (fun _ => true) true n 9 [c0] = some x0 := by rw [show [c0] = (List.drop 0 [c0, c1, c2]).take (Try.prog.cellsOf 9) by rw [show Try.prog.cellsOf 9 = 1 by kernel_rfl]; rfl]; exact f0
      obtain ⟨a0, r0, o0⟩ := ((openAt_str Try.underlying9) : OpenAt enc Try.prog n 9 V.str (fun x => List.length x ≤ maxLen)) W _ _ f0
      have f1 := hf 1 _ rfl
      replace f1 : DataW.trod enc Try.prog W 0 (fun _ => true) true n 28 [c1] = some x1 := by rw [show [c1] = (List.drop 1 [c0, c1, c2]).take (Try.prog.cellsOf 28) by rw [show Try.prog.cellsOf 28 = 1 by kernel_rfl]; rfl]; exact f1
      obtain ⟨a1, r1, o1⟩ := ((openAt_slice (sz := 1) (e := 5) (f := byteV) (ok := (fun _ => True)) Try.underlying28 (by kernel_rfl) (by decide) (fun a => rfl) (fun m hm => (openAt_byte Try.underlying5))) : OpenAt enc Try.prog n 28 (fun x => V.sl 1 (List.map byteV x)) (fun x => (List.length x ≤ maxLen ∧ ∀ a ∈ x, True))) W _ _ f1
      have f2 := hf 2 _ rfl
      replace f2 : DataW.trod enc Try.prog W 0 (fun _ => true) true n 28 [c2] = some x2 := by rw [show [c2] = (List.drop 2 [c0, c1, c2]).take (Try.prog.cellsOf 28) by rw [show Try.prog.cellsOf 28 = 1 by kernel_rfl]; rfl]; exact f2
      obtain ⟨a2, r2, o2⟩ := ((openAt_slice (sz := 1) (e := 5) (f := byteV) (ok := (fun _ => True)) Try.underlying28 (by kernel_rfl) (by decide) (fun a => rfl) (fun m hm => (openAt_byte Try.underlying5))) : OpenAt enc Try.prog n 28 (fun x => V.sl 1 (List.map byteV x)) (fun x => (List.length x ≤ maxLen ∧ ∀ a ∈ x, True))) W _ _ f2
      exact ⟨⟨a0, a1, a2⟩, by exact (r0.append (r1.append r2)), ⟨o0, o1, o2⟩⟩
inductive S_api_Message.Ok : S_api_Message → Prop
  | mk (x : S_api_Message) (h0 : List.length (x.Name) ≤ maxLen) (h1 : (List.length (x.Fields) ≤ maxLen ∧ ∀ a ∈ (x.Fields), S_api_Field.Ok a)) (h2 : List.length (x.Nested) ≤ maxLen) (k2 : ∀ a ∈ (x.Nested), S_api_Message.Ok a) (h3 : (List.length (x.Enums) ≤ maxLen ∧ ∀ a ∈ (x.Enums), S_api_Enum.Ok a)) (h4 : (List.length (x.Ranges) ≤ maxLen ∧ ∀ a ∈ (x.Ranges), S_api_Range.Ok a)) (h5 : (List.length (x.Extends) ≤ maxLen ∧ ∀ a ∈ (x.Extends), S_api_Field.Ok a)) (h6 : (List.length (x.Oneofs) ≤ maxLen ∧ ∀ a ∈ (x.Oneofs), S_api_Oneof.Ok a)) (h7 : (List.length (x.Reserved) ≤ maxLen ∧ ∀ a ∈ (x.Reserved), S_api_Range.Ok a)) (h8 : (List.length (x.Words) ≤ maxLen ∧ ∀ a ∈ (x.Words), List.length a ≤ maxLen)) (h9 : (List.length (x.Options) ≤ maxLen ∧ ∀ a ∈ (x.Options), True)) (h10 : (List.length (x.Unknown) ≤ maxLen ∧ ∀ a ∈ (x.Unknown), True)) : S_api_Message.Ok x
theorem S_api_Message.Ok.all {x : S_api_Message} (h : S_api_Message.Ok x) : List.length (x.Name) ≤ maxLen ∧ (List.length (x.Fields) ≤ maxLen ∧ ∀ a ∈ (x.Fields), S_api_Field.Ok a) ∧ (List.length (x.Nested) ≤ maxLen ∧ ∀ a ∈ (x.Nested), S_api_Message.Ok a) ∧ (List.length (x.Enums) ≤ maxLen ∧ ∀ a ∈ (x.Enums), S_api_Enum.Ok a) ∧ (List.length (x.Ranges) ≤ maxLen ∧ ∀ a ∈ (x.Ranges), S_api_Range.Ok a) ∧ (List.length (x.Extends) ≤ maxLen ∧ ∀ a ∈ (x.Extends), S_api_Field.Ok a) ∧ (List.length (x.Oneofs) ≤ maxLen ∧ ∀ a ∈ (x.Oneofs), S_api_Oneof.Ok a) ∧ (List.length (x.Reserved) ≤ maxLen ∧ ∀ a ∈ (x.Reserved), S_api_Range.Ok a) ∧ (List.length (x.Words) ≤ maxLen ∧ ∀ a ∈ (x.Words), List.length a ≤ maxLen) ∧ (List.length (x.Options) ≤ maxLen ∧ ∀ a ∈ (x.Options), True) ∧ (List.length (x.Unknown) ≤ maxLen ∧ ∀ a ∈ (x.Unknown), True) := by cases h with | mk _ h0 h1 h2 k2 h3 h4 h5 h6 h7 h8 h9 h10 => exact ⟨h0, h1, ⟨h2, k2⟩, h3, h4, h5, h6, h7, h8, h9, h10⟩
theorem S_api_Message.opens {H : Type} {enc : TypeId × Value → H} : ∀ fuel, OpenAt enc Try.prog fuel 30 S_api_Message.enc S_api_Message.Ok := by
  intro fuel
  induction fuel using Nat.strongRecOn with
  | ind fuel ih =>
    intro W cs x h
    obtain ⟨xs, n, hn, _, hl, hxl, hf⟩ := DataW.trod_struct Try.underlying30 h
    replace hl : cs.length = 11 := by rw [hl]; kernel_rfl
    replace hxl : xs.length = 11 := hxl
    match cs, hl, xs, hxl, hf with
    | [c0, c1, c2, c3, c4, c5, c6, c7, c8, c9, c10], _, [x0, x1, x2, x3, x4, x5, x6, x7, x8, x9, x10], _, hf =>
      have f0 := hf 0 _ rfl
      replace f0 : DataW.trod enc Try.prog W 0 (fun _ => true) true n 9 [c0] = some x0 := by rw [show [c0] = (List.drop 0 [c0, c1, c2, c3, c4, c5, c6, c7, c8, c9, c10]).take (Try.prog.cellsOf 9) by rw [show Try.prog.cellsOf 9 = 1 by kernel_rfl]; rfl]; exact f0
      obtain ⟨a0, r0, o0⟩ := ((openAt_str Try.underlying9) : OpenAt enc Try.prog n 9 V.str (fun x => List.length x ≤ maxLen)) W _ _ f0
      have f1 := hf 1 _ rfl
      replace f1 : DataW.trod enc Try.prog W 0 (fun _ => true) true n 22 [c1] = some x1 := by rw [show [c1] = (List.drop 1 [c0, c1, c2, c3, c4, c5, c6, c7, c8, c9, c10]).take (Try.prog.cellsOf 22) by rw [show Try.prog.cellsOf 22 = 1 by kernel_rfl]; rfl]; exact f1
      obtain ⟨a1, r1, o1⟩ := ((openAt_slice (sz := 13) (e := 48) (f := S_api_Field.enc) (ok := S_api_Field.Ok) Try.underlying22 (by kernel_rfl) (by decide) (fun a => rfl) (fun m hm => (S_api_Field.opens _))) : OpenAt enc Try.prog n 22 (fun x => V.sl 13 (List.map S_api_Field.enc x)) (fun x => (List.length x ≤ maxLen ∧ ∀ a ∈ x, S_api_Field.Ok a))) W _ _ f1
      have f2 := hf 2 _ rfl
      replace f2 : DataW.trod enc Try.prog W 0 (fun _ => true) true n 23 [c2] = some x2 := by rw [show [c2] = (List.drop 2 [c0, c1, c2, c3, c4, c5, c6, c7, c8, c9, c10]).take (Try.prog.cellsOf 23) by rw [show Try.prog.cellsOf 23 = 1 by kernel_rfl]; rfl]; exact f2
      obtain ⟨a2, r2, o2⟩ := ((openAt_slice (sz := 11) (e := 30) (f := S_api_Message.enc) (ok := S_api_Message.Ok) Try.underlying23 (by kernel_rfl) (by decide) (fun a => by rw [S_api_Message.enc_eq]; rfl) (fun m hm => ih m (by omega))) : OpenAt enc Try.prog n 23 (fun x => V.sl 11 (List.map S_api_Message.enc x)) (fun x => (List.length x ≤ maxLen ∧ ∀ a ∈ x, S_api_Message.Ok a))) W _ _ f2
      have f3 := hf 3 _ rfl
      replace f3 : DataW.trod enc Try.prog W 0 (fun _ => true) true n 24 [c3] = some x3 := by rw [show [c3] = (List.drop 3 [c0, c1, c2, c3, c4, c5, c6, c7, c8, c9, c10]).take (Try.prog.cellsOf 24) by rw [show Try.prog.cellsOf 24 = 1 by kernel_rfl]; rfl]; exact f3
      obtain ⟨a3, r3, o3⟩ := ((openAt_slice (sz := 4) (e := 44) (f := S_api_Enum.enc) (ok := S_api_Enum.Ok) Try.underlying24 (by kernel_rfl) (by decide) (fun a => rfl) (fun m hm => (S_api_Enum.opens _))) : OpenAt enc Try.prog n 24 (fun x => V.sl 4 (List.map S_api_Enum.enc x)) (fun x => (List.length x ≤ maxLen ∧ ∀ a ∈ x, S_api_Enum.Ok a))) W _ _ f3
      have f4 := hf 4 _ rfl
      replace f4 : DataW.trod enc Try.prog W 0 (fun _ => true) true n 25 [c4] = some x4 := by rw [show [c4] = (List.drop 4 [c0, c1, c2, c3, c4, c5, c6, c7, c8, c9, c10]).take (Try.prog.cellsOf 25) by rw [show Try.prog.cellsOf 25 = 1 by kernel_rfl]; rfl]; exact f4
      obtain ⟨a4, r4, o4⟩ := ((openAt_slice (sz := 2) (e := 115) (f := S_api_Range.enc) (ok := S_api_Range.Ok) Try.underlying25 (by kernel_rfl) (by decide) (fun a => rfl) (fun m hm => (S_api_Range.opens _))) : OpenAt enc Try.prog n 25 (fun x => V.sl 2 (List.map S_api_Range.enc x)) (fun x => (List.length x ≤ maxLen ∧ ∀ a ∈ x, S_api_Range.Ok a))) W _ _ f4
      have f5 := hf 5 _ rfl
      replace f5 : DataW.trod enc Try.prog W 0 (fun _ => true) true n 22 [c5] = some x5 := by rw [show [c5] = (List.drop 5 [c0, c1, c2, c3, c4, c5, c6, c7, c8, c9, c10]).take (Try.prog.cellsOf 22) by rw [show Try.prog.cellsOf 22 = 1 by kernel_rfl]; rfl]; exact f5
      obtain ⟨a5, r5, o5⟩ := ((openAt_slice (sz := 13) (e := 48) (f := S_api_Field.enc) (ok := S_api_Field.Ok) Try.underlying22 (by kernel_rfl) (by decide) (fun a => rfl) (fun m hm => (S_api_Field.opens _))) : OpenAt enc Try.prog n 22 (fun x => V.sl 13 (List.map S_api_Field.enc x)) (fun x => (List.length x ≤ maxLen ∧ ∀ a ∈ x, S_api_Field.Ok a))) W _ _ f5
      have f6 := hf 6 _ rfl
      replace f6 : DataW.trod enc Try.prog W 0 (fun _ => true) true n 26 [c6] = some x6 := by rw [show [c6] = (List.drop 6 [c0, c1, c2, c3, c4, c5, c6, c7, c8, c9, c10]).take (Try.prog.cellsOf 26) by rw [show Try.prog.cellsOf 26 = 1 by kernel_rfl]; rfl]; exact f6
      obtain ⟨a6, r6, o6⟩ := ((openAt_slice (sz := 3) (e := 118) (f := S_api_Oneof.enc) (ok := S_api_Oneof.Ok) Try.underlying26 (by kernel_rfl) (by decide) (fun a => rfl) (fun m hm => (S_api_Oneof.opens _))) : OpenAt enc Try.prog n 26 (fun x => V.sl 3 (List.map S_api_Oneof.enc x)) (fun x => (List.length x ≤ maxLen ∧ ∀ a ∈ x, S_api_Oneof.Ok a))) W _ _ f6
      have f7 := hf 7 _ rfl
      replace f7 : DataW.trod enc Try.prog W 0 (fun _ => true) true n 25 [c7] = some x7 := by rw [show [c7] = (List.drop 7 [c0, c1, c2, c3, c4, c5, c6, c7, c8, c9, c10]).take (Try.prog.cellsOf 25) by rw [show Try.prog.cellsOf 25 = 1 by kernel_rfl]; rfl]; exact f7
      obtain ⟨a7, r7, o7⟩ := ((openAt_slice (sz := 2) (e := 115) (f := S_api_Range.enc) (ok := S_api_Range.Ok) Try.underlying25 (by kernel_rfl) (by decide) (fun a => rfl) (fun m hm => (S_api_Range.opens _))) : OpenAt enc Try.prog n 25 (fun x => V.sl 2 (List.map S_api_Range.enc x)) (fun x => (List.length x ≤ maxLen ∧ ∀ a ∈ x, S_api_Range.Ok a))) W _ _ f7
      have f8 := hf 8 _ rfl
      replace f8 : DataW.trod enc Try.prog W 0 (fun _ => true) true n 27 [c8] = some x8 := by rw [show [c8] = (List.drop 8 [c0, c1, c2, c3, c4, c5, c6, c7, c8, c9, c10]).take (Try.prog.cellsOf 27) by rw [show Try.prog.cellsOf 27 = 1 by kernel_rfl]; rfl]; exact f8
      obtain ⟨a8, r8, o8⟩ := ((openAt_slice (sz := 1) (e := 9) (f := V.str) (ok := (fun x => List.length x ≤ maxLen)) Try.underlying27 (by kernel_rfl) (by decide) (fun a => rfl) (fun m hm => (openAt_str Try.underlying9))) : OpenAt enc Try.prog n 27 (fun x => V.sl 1 (List.map V.str x)) (fun x => (List.length x ≤ maxLen ∧ ∀ a ∈ x, List.length a ≤ maxLen))) W _ _ f8
      have f9 := hf 9 _ rfl
      replace f9 : DataW.trod enc Try.prog W 0 (fun _ => true) true n 28 [c9] = some x9 := by rw [show [c9] = (List.drop 9 [c0, c1, c2, c3, c4, c5, c6, c7, c8, c9, c10]).take (Try.prog.cellsOf 28) by rw [show Try.prog.cellsOf 28 = 1 by kernel_rfl]; rfl]; exact f9
      obtain ⟨a9, r9, o9⟩ := ((openAt_slice (sz := 1) (e := 5) (f := byteV) (ok := (fun _ => True)) Try.underlying28 (by kernel_rfl) (by decide) (fun a => rfl) (fun m hm => (openAt_byte Try.underlying5))) : OpenAt enc Try.prog n 28 (fun x => V.sl 1 (List.map byteV x)) (fun x => (List.length x ≤ maxLen ∧ ∀ a ∈ x, True))) W _ _ f9
      have f10 := hf 10 _ rfl
      replace f10 : DataW.trod enc Try.prog W 0 (fun _ => true) true n 28 [c10] = some x10 := by rw [show [c10] = (List.drop 10 [c0, c1, c2, c3, c4, c5, c6, c7, c8, c9, c10]).take (Try.prog.cellsOf 28) by rw [show Try.prog.cellsOf 28 = 1 by kernel_rfl]; rfl]; exact f10
      obtain ⟨a10, r10, o10⟩ := ((openAt_slice (sz := 1) (e := 5) (f := byteV) (ok := (fun _ => True)) Try.underlying28 (by kernel_rfl) (by decide) (fun a => rfl) (fun m hm => (openAt_byte Try.underlying5))) : OpenAt enc Try.prog n 28 (fun x => V.sl 1 (List.map byteV x)) (fun x => (List.length x ≤ maxLen ∧ ∀ a ∈ x, True))) W _ _ f10
      exact ⟨⟨a0, a1, a2, a3, a4, a5, a6, a7, a8, a9, a10⟩, by rw [S_api_Message.enc_eq]; exact (r0.append (r1.append (r2.append (r3.append (r4.append (r5.append (r6.append (r7.append (r8.append (r9.append r10)))))))))), .mk _ o0 o1 o2.1 o2.2 o3 o4 o5 o6 o7 o8 o9 o10⟩
end Go.Proofs.Ytpbnnbjkjaajnaa.Pv
