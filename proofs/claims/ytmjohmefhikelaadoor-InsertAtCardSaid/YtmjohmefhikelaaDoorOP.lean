/- Arguments opened: what a reading of data tells, as pure values, kind by kind. -/
import Derived.Test.YtmjohmefhikelaaDoorPwV
import Derived.Test.YtmjohmefhikelaaDoorPwP
import Derived.ProofKit
import Derived.Deep.Slices
import Derived.JoinedCond
set_option linter.unusedVariables false
set_option linter.unusedSimpArgs false
namespace Go.Proofs.YtmjohmefhikelaaDoor.Pv
open Go Go.Proofs Go.ChangeShapes Go.WideShapes Go.ChangeAt Go.RowKit Go.ChangeMaps

/-- What is covered where a call begins. -/
abbrev whole (w : World) : Nat → Nat := fun x => match w.heap[x]? with | some (.cells c _ _) => c.size | _ => 0
theorem whole_of_cell {W : World} {b off : Nat} {u : Value} (h : W.cell? ⟨b, off, none⟩ = some u) : off < whole W b := by
  unfold World.cell? at h
  unfold whole
  cases hb : W.heap[b]? with
  | none => rw [hb] at h; simp at h
  | some o =>
    rw [hb] at h
    cases o <;> simp at h
    case cells c e fr =>
      rcases Nat.lt_or_ge off c.size with h' | h'
      · exact h'
      · simp [Array.getElem?_eq_none h'] at h
/-- Cells that stand for values. -/
def Cells (W : World) (vs : List V) (us : List Value) : Prop :=
  vs.length = us.length ∧ (∀ u ∈ us, u.oneCell' = true) ∧ ∀ (k : Nat) (c : V) (u : Value), vs[k]? = some c → us[k]? = some u → VRel W (whole W) [] c u
theorem Cells.nil {W : World} : Cells W [] [] := ⟨rfl, by simp, by simp⟩
theorem Cells.one {W : World} {v : V} {u : Value} (h1 : u.oneCell' = true) (h : VRel W (whole W) [] v u) : Cells W [v] [u] :=
  ⟨rfl, by simpa using h1, fun k c u' hc hu => by cases k <;> simp at hc hu; subst hc; subst hu; exact h⟩
theorem Cells.append {W : World} {a b : List V} {x y : List Value} (h : Cells W a x) (k : Cells W b y) : Cells W (a ++ b) (x ++ y) := by
  refine ⟨by simp [h.1, k.1], fun u hu => ?_, fun i c u hc hu => ?_⟩
  · rcases List.mem_append.1 hu with hu | hu
    · exact h.2.1 u hu
    · exact k.2.1 u hu
  · by_cases hi : i < a.length
    · rw [List.getElem?_append_left hi] at hc
      rw [List.getElem?_append_left (by rw [← h.1]; exact hi)] at hu
      exact h.2.2 i c u hc hu
    · rw [List.getElem?_append_right (by omega)] at hc
      rw [List.getElem?_append_right (by rw [← h.1]; omega), ← h.1] at hu
      exact k.2.2 _ c u hc hu
section
variable {H : Type} (enc : TypeId × Value → H) (P : Program)
/-- Whatever is read at a type, with so much fuel, is a value of the kind. -/
def OpenAt (fuel t : Nat) {α : Type} (f : α → V) (ok : α → Prop) : Prop :=
  ∀ (W : World) (cs : List Value) (x : DataW H × List MemPlace), DataW.trod enc P W 0 (fun _ => true) true fuel t cs = some x → ∃ a, Cells W (f a).cells cs ∧ ok a
end
section
variable {H : Type} {enc : TypeId × Value → H} {P : Program} {fuel t e : Nat}
def okInt (k : IntKind) (n : Int) : Prop := (Lit.int k n).wf = true
theorem openAt_int {k : IntKind} (ht : P.underlying t = some (.int k)) : OpenAt enc P fuel t (V.int k) (okInt k) := by
  intro W cs x h
  obtain ⟨n, rfl, _, hw⟩ := DataW.trod_int ht h
  exact ⟨n, .one rfl (.int _ _), hw⟩
theorem openAt_str (ht : P.underlying t = some .string) : OpenAt enc P fuel t V.str (fun l => l.length ≤ maxLen) := by
  intro W cs x h
  obtain ⟨s, rfl, _, hw⟩ := DataW.trod_string ht h
  exact ⟨s.data.toList, .one rfl (.str _ _ rfl), by show s.data.toList.length ≤ maxLen; rw [Array.length_toList]; exact hw⟩
theorem trod_bool_inv {W : World} {cs : List Value} {x : DataW H × List MemPlace} (ht : P.underlying t = some .bool) (h : DataW.trod enc P W 0 (fun _ => true) true fuel t cs = some x) : ∃ b : Bool, cs = [.bool b] := by
  cases fuel with
  | zero => simp [DataW.trod] at h
  | succ n =>
    unfold DataW.trod at h
    rw [ht] at h
    split at h <;> simp_all
theorem openAt_bool (ht : P.underlying t = some .bool) : OpenAt enc P fuel t V.bool (fun _ => True) := by
  intro W cs x h
  obtain ⟨b, rfl⟩ := trod_bool_inv ht h
  exact ⟨b, .one rfl (.bool _), trivial⟩
theorem u8_of {q : Int} (hw : (Lit.int .u8 q).wf = true) : q = ((UInt8.ofNat q.toNat).toNat : Int) := by
  simp only [Lit.wf, IntKind.min, IntKind.max, IntKind.signed, IntKind.bits, Bool.and_eq_true, decide_eq_true_eq] at hw
  have h1 : 0 ≤ q := by simpa using hw.1
  have h2 : q ≤ 255 := by simpa using hw.2
  have : q.toNat < 256 := by omega
  simp [Nat.mod_eq_of_lt this]; omega
theorem openAt_byte (ht : P.underlying t = some (.int .u8)) : OpenAt enc P fuel t byteV (fun _ => True) := by
  intro W cs x h
  obtain ⟨n, rfl, _, hw⟩ := DataW.trod_int ht h
  refine ⟨UInt8.ofNat n.toNat, ?_, trivial⟩
  have := u8_of hw
  refine .one rfl ?_
  unfold byteV
  rw [← this]
  exact .int _ _
theorem flatten_at {sz : Nat} : ∀ (l : List (List Value)) (hl : ∀ x ∈ l, x.length = sz) (i j : Nat), j < sz → l.flatten[i * sz + j]? = (l[i]?).bind (·[j]?)
  | [], _, i, j, _ => by simp
  | x :: r, hl, 0, j, hj => by
    have := hl x (by simp)
    rw [List.flatten_cons, List.getElem?_append_left (by omega)]
    simp
  | x :: r, hl, i + 1, j, hj => by
    have := hl x (by simp)
    rw [List.flatten_cons, List.getElem?_append_right (by rw [this, Nat.succ_mul]; omega), this]
    rw [show (i + 1) * sz + j - sz = i * sz + j by rw [Nat.succ_mul]; omega, flatten_at r (fun x hx => hl x (by simp [hx])) i j hj]
    simp
theorem flatten_length {α : Type} {sz : Nat} : ∀ (l : List (List α)) (hl : ∀ x ∈ l, x.length = sz), l.flatten.length = l.length * sz
  | [], _ => by simp
  | x :: r, hl => by
    rw [List.flatten_cons, List.length_append, hl x (by simp), flatten_length r (fun x hx => hl x (by simp [hx])), List.length_cons, Nat.succ_mul]; omega
theorem Cells.flat {W : World} : ∀ (vs : List (List V)) (us : List (List Value)), vs.length = us.length → (∀ (i : Nat) (v : List V) (u : List Value), vs[i]? = some v → us[i]? = some u → Cells W v u) → Cells W vs.flatten us.flatten
  | [], [], _, _ => .nil
  | v :: vs, u :: us, hl, h => by
    rw [List.flatten_cons, List.flatten_cons]
    exact (h 0 v u rfl rfl).append (Cells.flat vs us (by simpa using hl) fun i v u hv hu => h (i + 1) v u (by simpa using hv) (by simpa using hu))
  | [], _ :: _, hl, _ => by simp at hl
  | _ :: _, [], hl, _ => by simp at hl
theorem openAt_slice {α : Type} {f : α → V} {ok : α → Prop} {sz : Nat} (ht : P.underlying t = some (.slice e)) (hsz : P.cellsOf e = sz) (h0 : 0 < sz) (hcell : ∀ a, (f a).cells.length = sz) (hf : ∀ n, n < fuel → OpenAt enc P n e f ok) :
    OpenAt enc P fuel t (fun l : List α => V.sl sz (l.map f)) (fun l => l.length ≤ maxLen ∧ ∀ a ∈ l, ok a) := by
  intro W cs x h
  rcases DataW.trod_slice ht h with ⟨rfl, _⟩ | ⟨a, len, cap, elems, rest, n, hn, rfl, _, _, hl, hm, hel, hx, _⟩
  · exact ⟨[], .one rfl (.sl0 sz none 0), by simp⟩
  · rw [hsz] at hx
    have hlm : len ≤ maxLen := Nat.le_trans hl hm
    have hget : ∀ i, i < len → ∃ (c : List Value) (y : α), c.length = sz ∧ (∀ j, j < sz → W.cell? ((a.add (i * sz)).add j) = c[j]?) ∧ Cells W (f y).cells c ∧ ok y := by
      intro i hi
      have := hx i hi
      rw [List.getElem?_eq_getElem (by omega)] at this
      obtain ⟨c, h1, h2⟩ := Option.bind_eq_some_iff.1 this
      obtain ⟨_, h3, h4⟩ := World.cells?_some h1
      obtain ⟨y, h5, h6⟩ := hf n (by omega) W c _ h2
      exact ⟨c, y, h3, h4, h5, h6⟩
    by_cases hl0 : len = 0
    · subst hl0
      exact ⟨[], .one rfl (.sl0 sz _ _), by simp⟩
    · have hspot : a.spot = none := by
        obtain ⟨c, y, h3, h4, _, _⟩ := hget 0 (by omega)
        have := h4 0 h0
        rw [List.getElem?_eq_getElem (by omega)] at this
        have := World.cell?_spot this
        simpa [Addr.add] using this
      obtain ⟨b, off, sp⟩ := a
      simp only [] at hspot
      subst hspot
      have hadd : ∀ i j, ((⟨b, off, none⟩ : Addr).add (i * sz)).add j = ⟨b, off + (i * sz + j), none⟩ := by
        intro i j
        simp only [Addr.add]
        split <;> split <;> simp_all <;> omega
      let C : Nat → List Value := fun i => if hi : i < len then (hget i hi).choose else []
      have hC : ∀ i (hi : i < len), C i = (hget i hi).choose := fun i hi => by simp only [C, dif_pos hi]
      have hY : ∀ i (hi : i < len), ∃ y : α, (C i).length = sz ∧ (∀ j, j < sz → W.cell? ⟨b, off + (i * sz + j), none⟩ = (C i)[j]?) ∧ Cells W (f y).cells (C i) ∧ ok y := by
        intro i hi
        rw [hC i hi]
        obtain ⟨y, h1, h2, h3, h4⟩ := (hget i hi).choose_spec
        exact ⟨y, h1, fun j hj => by rw [← hadd]; exact h2 j hj, h3, h4⟩
      have hne : Nonempty α := ⟨(hY 0 (by omega)).choose⟩
      let Y : Nat → α := fun i => if hi : i < len then (hY i hi).choose else Classical.choice hne
      have hYs : ∀ i, i < len → (C i).length = sz ∧ (∀ j, j < sz → W.cell? ⟨b, off + (i * sz + j), none⟩ = (C i)[j]?) ∧ Cells W (f (Y i)).cells (C i) ∧ ok (Y i) := by
        intro i hi
        simp only [Y, dif_pos hi]
        exact (hY i hi).choose_spec
      let vals := ((List.range len).map C).flatten
      have hvl : ∀ x ∈ (List.range len).map C, x.length = sz := by
        intro x hx
        obtain ⟨i, hi, rfl⟩ := List.mem_map.1 hx
        exact (hYs i (List.mem_range.1 hi)).1
      have hvlen : vals.length = len * sz := by
        have := flatten_length _ hvl
        rw [List.length_map, List.length_range] at this
        exact this
      have hcells : ∀ (k : Nat) (u : Value), vals[k]? = some u → W.cell? ⟨b, off + k, none⟩ = some u := by
        intro k u hk
        have hkl := (List.getElem?_eq_some_iff.1 hk).1
        rw [hvlen] at hkl
        have hd : k = k / sz * sz + k % sz := by rw [Nat.mul_comm]; exact (Nat.div_add_mod k sz).symm
        have hi : k / sz < len := Nat.div_lt_of_lt_mul (by rw [Nat.mul_comm]; exact hkl)
        have hj : k % sz < sz := Nat.mod_lt _ h0
        have := flatten_at _ hvl (k / sz) (k % sz) hj
        rw [← hd] at this
        rw [this] at hk
        simp only [List.getElem?_map, List.getElem?_range hi, Option.map_some, Option.bind_some] at hk
        have h2 := (hYs _ hi).2.1 _ hj
        rw [← hd] at h2
        rw [h2, hk]
      have hflat : Cells W (((List.range len).map fun i => (f (Y i)).cells)).flatten vals := by
        refine Cells.flat _ _ (by simp) fun i v u hv hu => ?_
        simp only [List.getElem?_map] at hv hu
        cases hr : (List.range len)[i]? with
        | none => rw [hr] at hv; simp at hv
        | some s =>
          rw [hr] at hv hu
          simp only [Option.map_some, Option.some.injEq] at hv hu
          subst hv; subst hu
          have : s < len := by have := List.mem_of_getElem? hr; simpa using this
          exact (hYs s this).2.2.1
      refine ⟨(List.range len).map Y, .one rfl ?_, by simpa using hlm, ?_⟩
      · refine .sl sz _ b off len cap vals (by simp) hl h0 (fun x hx => ?_) (by simp [hvlen]) ?_ hcells hflat.2.1 (fun k c u hc hu => ?_)
        · simp only [List.map_map, List.mem_map] at hx
          obtain ⟨i, _, rfl⟩ := hx
          exact hcell _
        · have hpos : 0 < len * sz := Nat.mul_pos (by omega) h0
          have := whole_of_cell (hcells (len * sz - 1) vals[len * sz - 1] (List.getElem?_eq_getElem (by omega)))
          omega
        · refine hflat.2.2 k c u ?_ hu
          rw [← hc]
          simp [List.flatMap, Function.comp_def]
      · intro y hy
        obtain ⟨i, hi, rfl⟩ := List.mem_map.1 hy
        exact (hYs i (List.mem_range.1 hi)).2.2.2
/-- An argument of a kind. -/
theorem open_arg {α : Type} {f : α → V} {ok : α → Prop} (ho : ∀ n, OpenAt enc P n t f ok) {W : World} {v : Value} {d : DataW H} {p : List MemPlace} (h : DataW.Trod enc P W 0 (fun _ => true) true t v d p) : ∃ a, Cells W (f a).cells v.cells.toList ∧ ok a := by
  obtain ⟨n, hn⟩ := h
  exact ho n W _ _ hn
end
end Go.Proofs.YtmjohmefhikelaaDoor.Pv
