/- strings.SplitSeq's iterator at this program, for a byte: each piece comes, once. -/
import Derived.Test.YthmmgcjljfndgaaDoorFA
import Derived.Test.YthmmgcjljfndgaaDoorShelf
set_option linter.unusedVariables false
set_option linter.unusedSimpArgs false
namespace Go.Proofs.YthmmgcjljfndgaaDoor.Pv
open Go Go.Proofs Go.RowKit
attribute [local go_sem] Oper.semAt_some

/-- The three cells of the iterator. -/
def Held (Bs Bp Bz : Nat) (c : UInt8) (x : ByteArray) (W : World) : Prop :=
  W.heap[Bs]? = some (.cells #[.string x] 9 (0, 0)) ∧ W.heap[Bp]? = some (.cells #[.string ⟨#[c]⟩] 9 (0, 0)) ∧ W.heap[Bz]? = some (.cells #[.int .i64 0] 3 (0, 0))
theorem Held.cs {Bs Bp Bz : Nat} {c : UInt8} {x : ByteArray} {W : World} (h : Held Bs Bp Bz c x W) : W.cell? ⟨Bs, 0, none⟩ = some (.string x) := by simp [World.cell?, h.1]
theorem Held.cp {Bs Bp Bz : Nat} {c : UInt8} {x : ByteArray} {W : World} (h : Held Bs Bp Bz c x W) : W.cell? ⟨Bp, 0, none⟩ = some (.string ⟨#[c]⟩) := by simp [World.cell?, h.2.1]
theorem Held.cz {Bs Bp Bz : Nat} {c : UInt8} {x : ByteArray} {W : World} (h : Held Bs Bp Bz c x W) : W.cell? ⟨Bz, 0, none⟩ = some (.int .i64 0) := by simp [World.cell?, h.2.2]
theorem Held.fs {Bs Bp Bz : Nat} {c : UInt8} {x : ByteArray} {W : World} (h : Held Bs Bp Bz c x W) : W.frozen? ⟨Bs, 0, none⟩ = false := by simp [World.frozen?, h.1]

theorem Held.set {Bs Bp Bz : Nat} {c : UInt8} {x : ByteArray} {W : World} (h : Held Bs Bp Bz c x W) (hsp : Bs ≠ Bp) (hsz : Bs ≠ Bz) (y : ByteArray) : Held Bs Bp Bz c y (W.setCell ⟨Bs, 0, none⟩ (.string y)) := by
  obtain ⟨h1, h2, h3⟩ := h
  refine ⟨?_, ?_, ?_⟩
  · simp [World.setCell, Array.getElem?_modify, h1]
  · simp [World.setCell, Array.getElem?_modify, hsp, h2]
  · simp [World.setCell, Array.getElem?_modify, hsz, h3]
theorem index_lt (l : List UInt8) (c : UInt8) : Lib.indexByte l c < l.length := by
  induction l with
  | nil => simp [Lib.indexByte]
  | cons b l ih =>
    unfold Lib.indexByte
    simp only [List.length_cons]
    split
    · omega
    · split
      · omega
      · omega
/-- Whether each piece is right. -/
def allOk (ok : ByteArray → Bool) (c : UInt8) (x : List UInt8) : Bool :=
  if h : Lib.indexByte x c < 0 then ok ⟨x.toArray⟩ else ok ⟨(x.take (Lib.indexByte x c).toNat).toArray⟩ && allOk ok c (x.drop ((Lib.indexByte x c).toNat + 1))
termination_by x.length
decreasing_by have := index_lt x c; simp only [List.length_drop]; omega
set_option maxHeartbeats 1000000 in
set_option maxRecDepth 100000 in
theorem iter_ok (l Bs Bp Bz : Nat) (c : UInt8) (ok : ByteArray → Bool) (J Jx : World → Prop)
    (hY : ∀ (x p : ByteArray) (W : World), p.size ≤ 900000000 → J W → Held Bs Bp Bz c x W → YieldAt Fence.wide 0 Tryd.prog l #[.string p] W fun e W' =>
      (e = .returned (.bool true) ∧ ok p = true ∧ J W' ∧ Held Bs Bp Bz c x W') ∨ (e = .returned (.bool false) ∧ ok p = false ∧ Jx W'))
    (hset : ∀ (x : ByteArray) (W : World), J W → J (W.setCell ⟨Bs, 0, none⟩ (.string x))) (x : ByteArray) (hxs : x.size ≤ 900000000) (hsp : Bs ≠ Bp) (hsz : Bs ≠ Bz) (W : World) (hW : J W) (hx : Held Bs Bp Bz c x W) :
    CallsIn Fence.wide 1 Tryd.prog 22 #[.func (.yield l) #[] #[], .pointer (some ⟨Bp, 0, none⟩), .pointer (some ⟨Bs, 0, none⟩), .pointer (some ⟨Bz, 0, none⟩)] W fun e W' => (∃ v, e = .returned v) ∧ ((allOk ok c x.data.toList = true ∧ J W') ∨ (allOk ok c x.data.toList = false ∧ Jx W')) := by
  have hcp := hx.cp
  refine callsIn_of_wp Tryd.func22 rfl trivial ?_ rfl
  simp only [Tryd.ntmps22, List.size_toArray, List.length_cons, List.length_nil, Nat.reduceAdd, Nat.reduceSub, Array.replicate_succ, Array.replicate_zero, List.push_toArray, List.append_toArray, List.nil_append, List.cons_append]
  gi_wp2
  gi_loopw [] (fun wr => ∃ y : ByteArray, (J wr ∧ Held Bs Bp Bz c y wr) ∧ (allOk ok c y.data.toList = allOk ok c x.data.toList ∧ y.size ≤ 900000000)) (fun wr => match wr.cell? ⟨Bs, 0, none⟩ with | some (.string y) => y.size | _ => 0)
  case atStart => exact ⟨x, ⟨hW, hx⟩, rfl, hxs⟩
  case round =>
    obtain ⟨y, ⟨hJ, hH⟩, hall, hys⟩ := hrel
    have h1 := hH.cs
    have h2 := hH.cp
    have h3 := hH.cz
    have hf := hH.fs
    by_cases hi : Lib.indexByte y.data.toList c < 0
    · have hal : allOk ok c x.data.toList = ok y := by rw [← hall, allOk, dif_pos hi]
      obtain ⟨fn, tmps, assign, body, hy, hR⟩ := hY y y wr hys hJ hH
      gi_wp2_with (refine ⟨trivial, ?_⟩; gi_at_call 24; refine (callsIn_wide.2 (Tryd.strings_Index_one y c wr)).mono ?_; rintro e w' ⟨rfl, rfl⟩)
      refine hR.mono ?_
      rintro e W3 (⟨rfl, ho, hJ3, hk3⟩ | ⟨rfl, ho, hJx3⟩)
      · gi_wp2
        go_end0
        exact ⟨⟨_, rfl⟩, .inl ⟨hal.trans ho, hJ3⟩⟩
      · gi_wp2
        go_end0
        exact ⟨⟨_, rfl⟩, .inr ⟨hal.trans ho, hJx3⟩⟩
    · have hil := index_lt y.data.toList c
      generalize hq : Lib.indexByte y.data.toList c = i at hi hil
      obtain ⟨n, rfl⟩ := Int.eq_ofNat_of_zero_le (show 0 ≤ i by omega)
      have hyl : y.data.toList.length = y.size := by rw [Array.length_toList]; rfl
      have hny : n < y.size := by omega
      have hny' : n ≤ y.size := by omega
      have hwr : Go.RowKit.wrap64 (n : Int) = n := by unfold Go.RowKit.wrap64; omega
      have hwr1 : Go.RowKit.wrap64 ((n : Int) + 1) = ((n + 1 : Nat) : Int) := by unfold Go.RowKit.wrap64; omega
      have hn0 : ¬ ((n : Int) < 0) := by omega
      obtain ⟨fn, tmps, assign, body, hy, hR⟩ := hY y (y.extract 0 n) wr (by simp [ByteArray.size_extract]; omega) hJ hH
      gi_wp2_with (refine ⟨trivial, ?_⟩; gi_at_call 24; refine (callsIn_wide.2 (Tryd.strings_Index_one y c wr)).mono ?_; rintro e w' ⟨rfl, rfl⟩; rw [hq])
      have hpe : (⟨(y.data.toList.take (Lib.indexByte y.data.toList c).toNat).toArray⟩ : ByteArray) = y.extract 0 n := by
        rw [hq]
        apply ByteArray.ext
        rw [ByteArray.data_extract]
        apply Array.ext'
        simp
      have hre : (y.extract (n + 1) y.size).data.toList = y.data.toList.drop ((Lib.indexByte y.data.toList c).toNat + 1) := by
        rw [hq, ByteArray.data_extract, Array.toList_extract]
        show (y.data.toList.drop (n + 1)).take (y.size - (n + 1)) = y.data.toList.drop (n + 1)
        exact List.take_of_length_le (by rw [List.length_drop, hyl]; exact Nat.le_refl _)
      have hal : allOk ok c x.data.toList = (ok (y.extract 0 n) && allOk ok c (y.extract (n + 1) y.size).data.toList) := by rw [← hall, allOk, dif_neg (by rw [hq]; omega), hpe, hre]
      refine hR.mono ?_
      rintro e W3 (⟨rfl, ho, hJ3, hH3⟩ | ⟨rfl, ho, hJx3⟩)
      · have g1 := hH3.cs
        have g2 := hH3.cp
        have gf := hH3.fs
        have hes : (y.extract (n + 1) y.size).size = y.size - (n + 1) := by simp [ByteArray.size_extract]
        gi_wp2
        refine ⟨⟨_, ⟨hset _ _ hJ3, hH3.set hsp hsz _⟩, ?_, by rw [hes]; omega⟩, ?_⟩
        · rw [hal, ho, Bool.true_and]
        · rw [h1, (hH3.set hsp hsz _).cs]
          show (y.extract (n + 1) y.size).size < y.size
          rw [hes]
          omega
      · gi_wp2
        refine bodyPost_ret (results_none rfl _ _ _) rfl ?_
        exact ⟨⟨_, rfl⟩, .inr ⟨by rw [hal, ho]; rfl, hJx3⟩⟩
end Go.Proofs.YthmmgcjljfndgaaDoor.Pv
