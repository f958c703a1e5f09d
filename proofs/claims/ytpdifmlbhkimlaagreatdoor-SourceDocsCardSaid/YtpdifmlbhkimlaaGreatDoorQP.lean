/- What is known of the library's calls that are not walked: strings.Count of one byte, slices.Grow of no ints; and the run of awake, reckoned. -/
import Derived.Test.YtpdifmlbhkimlaaGreatDoorXT
import Derived.Test.YtpdifmlbhkimlaaGreatDoorPwDg
import Derived.Test.YtpdifmlbhkimlaaGreatDoorPwS
import Derived.Lib.Bytealg
import Derived.Lib.IndexMore
set_option linter.unusedVariables false
set_option linter.unusedSimpArgs false
set_option maxRecDepth 1000000
namespace Go.Proofs.YtpdifmlbhkimlaaGreatDoor.Pv
open Go Go.Proofs

abbrev CA (prim : CallP) : CallP := ACall Tryz.prog ty prim
inductive QPrim : FuncId → List V → H → (Out → H → Prop) → Prop
  | count (s : List UInt8) (c : UInt8) {h : H} {Q : Out → H → Prop} (hq : Q (.ret (.int .i64 (Lib.countByte s c))) h) : QPrim 58 [.str s, .str [c]] h Q
  | grow {h : H} {Q : Out → H → Prop} (n : Int) (h0 : 0 < n) (h1 : n ≤ 1048576) (hq : Q (.ret (.own 3 1 [])) h) : QPrim 40 [.nils 3 1, .int .i64 n] h Q
def qprim : CallP := QPrim
theorem qprim_mono : PMono qprim := fun f args h Q Q' hQ hf => by
  cases hf with
  | count s c hq => exact .count s c (hQ _ _ hq)
  | grow n h0 h1 hq => exact .grow n h0 h1 (hQ _ _ hq)
abbrev hp := qprim_mono
theorem row_get {h : H} {id t : Nat} {cs : List V} (h0 : h[id]? = some (.cells t cs)) : h.row id = some cs := by simp only [H.row, h0, Option.bind_some, AObj.row]
theorem ety_get {h : H} {id t : Nat} {cs : List V} (h0 : h[id]? = some (.cells t cs)) : h.ety id = t := by simp only [H.ety, h0]
/-- The same, to be reckoned. -/
def prX : FuncId → List V → H → Option (Out × H) := fun f args h => match f, args with
 | 58, [.str s, .str [c]] => some (.ret (.int .i64 (Lib.countByte s c)), h)
 | 40, [.nils 3 1, .int .i64 n] => if 0 < n ∧ n ≤ 1048576 then some (.ret (.own 3 1 []), h) else none
 | _, _ => none
theorem prX_ok : CallOK (ACall Tryz.prog ty qprim) prX := by
  intro f args h r h' hs Q hq
  unfold prX at hs
  split at hs
  · obtain ⟨rfl, rfl⟩ := by simpa using hs
    exact acall_prim (.count _ _ hq)
  · split at hs
    · rename_i hn
      obtain ⟨rfl, rfl⟩ := by simpa using hs
      exact acall_prim (.grow _ hn.1 hn.2 hq)
    · cases hs
  · cases hs
theorem awake_x : (match callX ty (tabOf Tryz.prog ktX) prX 100000 4 [] [] with | some (.ret (.bool true), []) => true | _ => false) = true := by kernel_rfl
theorem awake_c : CA qprim 4 [] [] fun r _ => r = .ret (.bool true) := by
  have h := awake_x
  split at h
  · rename_i e
    exact callX_sound hp (tabOf_ok ktX_ok) prX_ok 100000 _ _ _ _ _ e _ rfl
  · cases h
def awakeX : R Bool := .ok true
theorem awakeX_call {h : H} {Q : Out → H → Prop} {KK : Bool → Prop} {X : V → Prop} (hq : (awakeX).post KK X) (hK : ∀ r, KK r → Q (.ret (.bool r)) h) (hX : ∀ v, X v → V.Cl 0 v ∧ Q (.panic v) h) : CA qprim 4 [] h Q :=
  acall_lend rfl (fun i a a' ha _ => by cases ha) (fun a ha => by cases ha) (.bool _) awake_c (hK true hq)
end Go.Proofs.YtpdifmlbhkimlaaGreatDoor.Pv
