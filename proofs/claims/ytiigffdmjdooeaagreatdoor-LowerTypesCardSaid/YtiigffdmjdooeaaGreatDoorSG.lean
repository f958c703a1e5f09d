/- slices.Grow of a slice of ints at this seat: the library's contract, in plain words; and that it is so for the evaluator's calls. -/
import Derived.Shelf.Spec.SlicesGrow
import Derived.Test.YtiigffdmjdooeaaGreatDoorTy
import Derived.Test.YtiigffdmjdooeaaGreatDoorPwU
set_option linter.unusedVariables false
set_option linter.unusedSimpArgs false
namespace Go.Proofs
open Go.Shelf
def Tryz.growI_ren : Go.Shelf.Ren := ⟨fun | 4 => 145 | n => n, fun | 22 => 36 | 25 => 3 | n => n, fun | n => n⟩
theorem Tryz.growI : Go.Proofs.Lays8.n4 Tryz.prog Tryz.growI_ren := {
  mixed := by kernel_rfl
  f4 := ⟨"slices.Grow[[]int,int]", by decide, Tryz.func145.trans (congrArg some (by kernel_rfl))⟩
  t0 := Tryz.underlying0
  a0 := Tryz.isAgg0
  z0 := Tryz.sizeOf0
  v0 := Tryz.zeroValue0
  t3 := Tryz.underlying3
  a3 := Tryz.isAgg3
  z3 := Tryz.sizeOf3
  v3 := Tryz.zeroValue3
  t4 := Tryz.underlying4
  a4 := Tryz.isAgg4
  z4 := Tryz.sizeOf4
  v4 := Tryz.zeroValue4
  t9 := Tryz.underlying9
  a9 := Tryz.isAgg9
  z9 := Tryz.sizeOf9
  v9 := Tryz.zeroValue9
  t20 := Tryz.underlying20
  a20 := Tryz.isAgg20
  z20 := Tryz.sizeOf20
  v20 := Tryz.zeroValue20
  t22 := Tryz.underlying36
  a22 := Tryz.isAgg36
  z22 := Tryz.sizeOf36
  v22 := Tryz.zeroValue36 }
end Go.Proofs
namespace Go.Proofs.YtiigffdmjdooeaaGreatDoor.Pv
open Go Go.Proofs
theorem info_int : ∃ i, Tryz.prog.info? 3 = some i ∧ i.zero = some (.int .i64 0) ∧ i.size = 1 ∧ i.bytes = 8 := by
  have h : (match Tryz.prog.info? 3 with | some i => (match i.zero with | some (.int .i64 n) => n == 0 | _ => false) && i.size == 1 && i.bytes == 8 | _ => false) = true := by kernel_rfl
  split at h
  · rename_i i e
    simp only [Bool.and_eq_true, beq_iff_eq] at h
    obtain ⟨⟨hz, hs⟩, hb⟩ := h
    refine ⟨i, e, ?_, hs, hb⟩
    split at hz
    · rename_i n ez
      rw [ez]
      simp only [beq_iff_eq] at hz
      rw [hz]
    · cases hz
  · cases h
theorem args_twoG {w : World} {F : Nat → Nat} {ι : List Nat} {x y : V} {cargs : Array Value} (h : LRel w F ι [x, y] cargs.toList) : ∃ u v, cargs = #[u, v] ∧ VRel w F ι x u ∧ VRel w F ι y v := by
  obtain ⟨hl, hr⟩ := h
  match hc : cargs.toList, hl with
  | [u, v], _ =>
    rw [hc] at hr
    exact ⟨u, v, by apply Array.ext'; rw [hc], hr 0 _ u rfl rfl, hr 1 _ v rfl rfl⟩
theorem growI_sound {n : Int} {h : H} {Q : Out → H → Prop} (h0 : 0 < n) (h1 : n ≤ 1048576) (hq : Q (.ret (.own 3 1 [])) h) : Sound Tryz.prog 145 [.nils 3 1, .int .i64 n] h Q := by
  refine ⟨⟨Tryz.f145, Tryz.func145, by kernel_rfl, by kernel_rfl⟩, fun D w g cargs hh hargs => ?_⟩
  obtain ⟨u, v, rfl, k1, k2⟩ := args_twoG hargs
  cases k1
  cases k2
  obtain ⟨m, rfl⟩ : ∃ m : Nat, n = m := ⟨n.toNat, by omega⟩
  obtain ⟨i0, hi, hz, hs, hb⟩ := info_int
  have hge := grownCap_ge w (0 + m) 0 3
  have hcm : grownCap w (0 + m) 0 3 ≤ maxLen := grownCap_le_maxLen w _ 0 3 (by unfold maxLen; omega)
  refine (Any8.slices_Grow_grow Tryz.growI i0 _ hi hz (by omega) none 0 0 m [] w (Nat.le_refl _) (by omega) (by rw [hb]; omega) (by omega) (by simp) (fun _ => rfl) (fun a ha => by cases ha)).mono fun e w' he => ?_
  rw [show Tryz.growI_ren.t 25 = 3 from rfl] at he
  obtain ⟨rfl, rfl⟩ := he
  have hG := grown_new (w := w) (g := g) (h := h) (q := .slot D 0) (m := 0) (e := 3) (c := (([] : List Value).toArray ++ Builtin.zeroCells (Value.int .i64 0).cells (0 + m - 0) ++ Builtin.zeroCells (Value.int .i64 0).cells (grownCap w (0 + m) 0 3 - (0 + m)))) hh
  refine ⟨_, h, hG.ext hh, hG.hrel hh, .inl ⟨.own 3 1 [], _, 0, rfl, hq, .inr ⟨none, 3, 1, [], w.heap.size, 0, grownCap w (0 + m) 0 3, _, [], rfl, rfl, heap_alloc_new w.drew _, Nat.zero_le _, hcm, ?_, by simp, rfl, by decide, (fun x hx => by cases hx), (fun x hx => by cases hx), LRel.nil, ?_, ?_, fun o u' ho hu' => by cases ho⟩⟩⟩
  · simp only [Array.size_append, List.size_toArray, size_zeroCells, Value.cells, List.length_nil, List.length_cons]
    omega
  · simp [Gh.grown, rowF]
  · simp [Gh.grown]
end Go.Proofs.YtiigffdmjdooeaaGreatDoor.Pv
