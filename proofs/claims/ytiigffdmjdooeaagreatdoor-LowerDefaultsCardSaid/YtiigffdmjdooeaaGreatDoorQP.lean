/- What is known of the library's calls that are not walked: slices.Grow of no ints, the string builder's copyCheck and String. The array of words: reckoned. awake: reckoned. -/
import Derived.Test.YtiigffdmjdooeaaGreatDoorXT
import Derived.Test.YtiigffdmjdooeaaGreatDoorTe
import Derived.Test.YtiigffdmjdooeaaGreatDoorPwDg
import Derived.Test.YtiigffdmjdooeaaGreatDoorPwS
import Derived.Lib.Bytealg
import Derived.Lib.IndexMore
set_option linter.unusedVariables false
set_option linter.unusedSimpArgs false
set_option maxRecDepth 1000000
namespace Go.Proofs.YtiigffdmjdooeaaGreatDoor.Pv
open Go Go.Proofs

abbrev CA (prim : CallP) : CallP := ACall Tryz.prog ty prim
inductive QPrim : FuncId → List V → H → (Out → H → Prop) → Prop
  | grow {h : H} {Q : Out → H → Prop} (n : Int) (h0 : 0 < n) (h1 : n ≤ 1048576) (hq : Q (.ret (.own 3 1 [])) h) : QPrim 145 [.nils 3 1, .int .i64 n] h Q
  | copyCheck {h : H} {Q : Out → H → Prop} (id : Nat) (p b : V) (h0 : h[id]? = some (.cells 182 [p, b])) (hp : p = .nilp ∨ p = .ref id 0) (hq : Q (.ret (.tup [])) (h.set id (.cells 182 [.ref id 0, b]))) : QPrim 171 [.ref id 0] h Q
  | string {h : H} {Q : Out → H → Prop} (id : Nat) (p : V) (l : List UInt8) (hl : l ≠ []) (h0 : h[id]? = some (.cells 182 [p, .own 5 1 (l.map byteV)])) (hq : Q (.ret (.str l)) (h.set id (.cells 182 [p, .sl 1 (l.map byteV)]))) : QPrim 162 [.ref id 0] h Q
def qprim : CallP := QPrim
theorem qprim_mono : PMono qprim := fun f args h Q Q' hQ hf => by
  cases hf with
  | grow n h0 h1 hq => exact .grow n h0 h1 (hQ _ _ hq)
  | copyCheck id p b h0 hp hq => exact .copyCheck id p b h0 hp (hQ _ _ hq)
  | string id p l hl h0 hq => exact .string id p l hl h0 (hQ _ _ hq)
abbrev hp := qprim_mono
theorem row_get {h : H} {id t : Nat} {cs : List V} (h0 : h[id]? = some (.cells t cs)) : h.row id = some cs := by simp only [H.row, h0, Option.bind_some, AObj.row]
theorem ety_get {h : H} {id t : Nat} {cs : List V} (h0 : h[id]? = some (.cells t cs)) : h.ety id = t := by simp only [H.ety, h0]
/-- The same, to be reckoned. -/
def prX : FuncId → List V → H → Option (Out × H) := fun f args h => match f, args with
  | 145, [.nils 3 1, .int .i64 n] => if 0 < n ∧ n ≤ 1048576 then some (.ret (.own 3 1 []), h) else none
  | 171, [.ref id 0] => (match h[id]? with
    | some (.cells 182 [.nilp, b]) => some (.ret (.tup []), h.set id (.cells 182 [.ref id 0, b]))
    | some (.cells 182 [.ref i2 0, b]) => if Nat.beq i2 id then some (.ret (.tup []), h.set id (.cells 182 [.ref id 0, b])) else none
    | _ => none)
  | 162, [.ref id 0] => (match h[id]? with
    | some (.cells 182 [p, .own 5 1 (x :: l)]) => (match toBytes (x :: l) with
      | some b => some (.ret (.str b), h.set id (.cells 182 [p, .sl 1 (x :: l)]))
      | none => none)
    | _ => none)
  | _, _ => none
theorem prX_ok : CallOK (ACall Tryz.prog ty qprim) prX := by
  intro f args h r h' hs Q hq
  unfold prX at hs
  split at hs
  · split at hs
    · rename_i hn
      obtain ⟨rfl, rfl⟩ := by simpa using hs
      exact acall_prim (.grow _ hn.1 hn.2 hq)
    · cases hs
  · split at hs
    · rename_i h0
      obtain ⟨rfl, rfl⟩ := by simpa using hs
      exact acall_prim (.copyCheck _ _ _ h0 (.inl rfl) hq)
    · rename_i h0
      split at hs
      · rename_i he
        obtain rfl := Nat.eq_of_beq_eq_true he
        obtain ⟨rfl, rfl⟩ := by simpa using hs
        exact acall_prim (.copyCheck _ _ _ h0 (.inr rfl) hq)
      · cases hs
    · cases hs
  · split at hs
    · rename_i p x l h0
      split at hs
      · rename_i b hb
        obtain ⟨rfl, rfl⟩ := by simpa using hs
        have e := toBytes_spec hb
        have hne : b ≠ [] := fun e2 => by rw [e2] at e; cases e
        rw [e] at h0 hq
        exact acall_prim (.string _ _ _ hne h0 hq)
      · cases hs
    · cases hs
  · cases hs
/-- The example's text, and its tree: the first half of awake, reckoned. -/
def msgT : List UInt8 := [109, 101, 115, 115, 97, 103, 101, 32, 65, 32, 123, 32, 111, 112, 116, 105, 111, 110, 97, 108, 32, 105, 110, 116, 51, 50, 32, 98, 32, 61, 32, 49, 59, 32, 125]
def msgV : V := (.tup [(.agg [(.int .i64 (1)), (.str []), (.int .i64 (0)), (.int .i64 (0)), (.int .i64 (0)), (.int .i64 (0)), (.str []), (.sl 8 [(.agg [(.int .i64 (5)), (.str [65]), (.int .i64 (0)), (.int .i64 (0)), (.int .i64 (0)), (.int .i64 (0)), (.str []), (.sl 8 [(.agg [(.int .i64 (9)), (.str [98]), (.int .i64 (1)), (.int .i64 (0)), (.int .i64 (1)), (.int .i64 (12)), (.str []), (.sl 8 [(.agg [(.int .i64 (18)), (.str [105, 110, 116, 51, 50]), (.int .i64 (0)), (.int .i64 (0)), (.int .i64 (0)), (.int .i64 (21)), (.str []), (.nils 28 8)])])])])])])]), (.int .i64 (0)), (.int .i64 (0))])
theorem tree_x : (match callX ty (tabOf Tryz.prog ktX) prX 100000 13 [.str msgT] [] with | some (.ret v, []) => V.beq v msgV | _ => false) = true := by kernel_rfl
def prX2 : FuncId → List V → H → Option (Out × H) := fun f args h => match prX f args h with
  | some r => some r
  | none => (match f, args, h with
    | 13, [.str s], [] => if s = msgT then some (.ret msgV, []) else none
    | _, _, _ => none)
theorem prX2_ok : CallOK (ACall Tryz.prog ty qprim) prX2 := by
  intro f args h r h' hs Q hq
  unfold prX2 at hs
  split at hs
  · rename_i r0 hr
    obtain rfl := Option.some.inj hs
    exact prX_ok _ _ _ _ _ hr Q hq
  · split at hs
    · split at hs
      · rename_i he
        subst he
        obtain ⟨rfl, rfl⟩ := by simpa using hs
        have h := tree_x
        split at h
        · rename_i v e
          rw [V.beq_eq _ _ h] at e
          exact callX_sound hp (tabOf_ok ktX_ok) prX_ok 100000 _ _ _ _ _ e Q hq
        · cases h
      · cases hs
    · cases hs
theorem awake_x : (match callX ty (tabOf Tryz.prog ktX) prX2 100000 5 [] [] with | some (.ret (.bool true), []) => true | _ => false) = true := by kernel_rfl
theorem awake_c : CA qprim 5 [] [] fun r _ => r = .ret (.bool true) := by
  have h := awake_x
  split at h
  · rename_i e
    exact callX_sound hp (tabOf_ok ktX_ok) prX2_ok 100000 _ _ _ _ _ e _ rfl
  · cases h
/-- The words of the plain types. -/
def wordsL : List (List UInt8) := [[], [100, 111, 117, 98, 108, 101], [102, 108, 111, 97, 116], [105, 110, 116, 54, 52], [117, 105, 110, 116, 54, 52], [105, 110, 116, 51, 50], [102, 105, 120, 101, 100, 54, 52], [102, 105, 120, 101, 100, 51, 50], [98, 111, 111, 108], [115, 116, 114, 105, 110, 103], [], [], [98, 121, 116, 101, 115], [117, 105, 110, 116, 51, 50], [], [115, 102, 105, 120, 101, 100, 51, 50], [115, 102, 105, 120, 101, 100, 54, 52], [115, 105, 110, 116, 51, 50], [115, 105, 110, 116, 54, 52]]
theorem words_x : (match callX ty (tabOf Tryz.prog ktX) prX 1000 15 [] [] with | some (.ret v, []) => V.beq v (.agg (List.map V.str wordsL)) | _ => false) = true := by kernel_rfl
theorem words_c : CA qprim 15 [] [] fun r h' => r = .ret (.agg (List.map V.str wordsL)) := by
  have h := words_x
  split at h
  · rename_i v e
    exact callX_sound hp (tabOf_ok ktX_ok) prX_ok 1000 _ _ _ _ _ e _ (by rw [V.beq_eq _ _ h])
  · cases h
def wordsX : R (List (List UInt8)) := .ok wordsL
theorem wordsX_call {h : H} {Q : Out → H → Prop} {KK : List (List UInt8) → Prop} {X : V → Prop} (hq : (wordsX).post KK X) (hK : ∀ r, KK r → Q (.ret (.agg (List.map V.str r))) h) (hX : ∀ v, X v → V.Cl 0 v ∧ Q (.panic v) h) : CA qprim 15 [] h Q :=
  acall_lend rfl (fun i a a' ha _ => by cases ha) (fun a ha => by cases ha) (.agg _ fun x hx => by obtain ⟨a, _, rfl⟩ := List.mem_map.1 hx; exact .str _) words_c (hK wordsL hq)
theorem arr_gt {α : Type} [Inhabited α] {f : α → V} {l : List α} {i : Int} (hf : ∀ a, (f a).cells = [f a]) (h : 0 ≤ i ∧ i < (l.length : Int)) : (List.map f (List.take 1 (List.drop i.toNat l))).headD V.top = f (gt l i) := by
  have hi : i.toNat < l.length := by omega
  have e : List.take 1 (List.drop i.toNat l) = [l[i.toNat]] := by rw [List.drop_eq_getElem_cons hi]; rfl
  rw [e]
  show f l[i.toNat] = _
  simp [gt, List.getD, hi]
theorem arr_len {α : Type} {f : α → V} {l : List α} {i : Int} (h : 0 ≤ i ∧ i < (l.length : Int)) : i.toNat * 1 + 1 ≤ (List.map f l).length := by
  rw [List.length_map]
  omega
def awakeX : R Bool := .ok true
theorem awakeX_call {h : H} {Q : Out → H → Prop} {KK : Bool → Prop} {X : V → Prop} (hq : (awakeX).post KK X) (hK : ∀ r, KK r → Q (.ret (.bool r)) h) (hX : ∀ v, X v → V.Cl 0 v ∧ Q (.panic v) h) : CA qprim 5 [] h Q :=
  acall_lend rfl (fun i a a' ha _ => by cases ha) (fun a ha => by cases ha) (.bool _) awake_c (hK true hq)
end Go.Proofs.YtiigffdmjdooeaaGreatDoor.Pv
