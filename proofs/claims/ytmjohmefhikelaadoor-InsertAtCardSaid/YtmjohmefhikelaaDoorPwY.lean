/- Maps whose keys are texts, as plain lists of pairs. -/
import Derived.Test.YtmjohmefhikelaaDoorPwX
set_option linter.unusedVariables false
set_option linter.unusedSimpArgs false
namespace Go.Proofs.YtmjohmefhikelaaDoor.Pv
open Go

/-- An entry, as values. -/
def ent {α : Type} (f : α → V) (e : List UInt8 × α) : V × V := (.str e.1, f e.2)
def mget {α : Type} (s : List UInt8) : List (List UInt8 × α) → Option α
  | [] => none
  | (k, x) :: r => if k = s then some x else mget s r
def mset {α : Type} (s : List UInt8) (x : α) : List (List UInt8 × α) → List (List UInt8 × α)
  | [] => [(s, x)]
  | (k, y) :: r => if k = s then (s, x) :: r else (k, y) :: mset s x r
/-- Lists told less exactly, element by element. -/
def LcLe (xs ys : List V) : Prop := LLe xs ys ∧ ∀ (i : Nat) (x y : V), xs[i]? = some x → ys[i]? = some y → y.cells.length = x.cells.length
theorem LcLe.nil : LcLe [] [] := ⟨LLe.nil, fun i x y h _ => by simp at h⟩
theorem LcLe.cons {x y : V} {xs ys : List V} (h : V.Le x y) (hc : y.cells.length = x.cells.length) (k : LcLe xs ys) : LcLe (x :: xs) (y :: ys) :=
  ⟨LLe.cons h k.1, fun i x' y' hx hy => by
    cases i with
    | zero => simp at hx hy; subst hx; subst hy; exact hc
    | succ i => simp at hx hy; exact k.2 i x' y' hx hy⟩
theorem V.Le.slx {s : Nat} {xs ys : List V} (h : LcLe xs ys) : V.Le (.sl s xs) (.sl s ys) := .sl s xs ys h.1.1 h.2 h.1.2
section
variable {α : Type} {f : α → V} {s : List UInt8}
theorem textKeys_map (m : List (List UInt8 × α)) : textKeys (m.map (ent f)) = true := by
  simp [textKeys, ent, textKey]
theorem mapGet_map : ∀ m : List (List UInt8 × α), mapGet s (m.map (ent f)) = (mget s m).map f
  | [] => rfl
  | (k, x) :: r => by
    have ih := mapGet_map r
    unfold mapGet at ih ⊢
    simp only [List.map_cons, ent, mapIx, textKey, Option.some.injEq, mget]
    by_cases h : k = s
    · simp [h]
    · rw [if_neg h, if_neg h, ← ih]
      cases mapIx s (List.map (ent f) r) with
      | none => rfl
      | some i => rfl
theorem mapSet_map (x : α) : ∀ m : List (List UInt8 × α), mapSet s (f x) (m.map (ent f)) = (mset s x m).map (ent f)
  | [] => rfl
  | (k, y) :: r => by
    have ih := mapSet_map x r
    unfold mapSet at ih ⊢
    simp only [List.map_cons, mapIx, ent, textKey, Option.some.injEq, mset]
    by_cases h : k = s
    · simp [h, ent]
    · rw [if_neg h, if_neg h]
      simp only [List.map_cons, ent]
      rw [← ih]
      cases mapIx s (List.map (ent f) r) with
      | none => rfl
      | some i => rfl
theorem lookV_tt {t : Ty} {z : α} (hz : f z = (t.val t.zero).slz) (o : Option α) : lookV true t (o.map f) = .tup [f (o.getD z), .bool o.isSome] := by
  unfold lookV
  cases o <;> simp [hz]
theorem lookV_ff {t : Ty} {z : α} (hz : f z = (t.val t.zero).slz) (o : Option α) : lookV false t (o.map f) = f (o.getD z) := by
  unfold lookV
  cases o <;> simp [hz]
theorem mget_mset (x : α) (k : List UInt8) : ∀ m : List (List UInt8 × α), mget k (mset s x m) = if s = k then some x else mget k m
  | [] => by simp [mset, mget]
  | (k', y) :: r => by
    have ih := mget_mset x k r
    by_cases h : k' = s
    · subst h
      simp only [mset, if_true, mget]
      split <;> simp_all
    · simp only [mset, if_neg h, mget, ih]
      by_cases h2 : k' = k
      · subst h2
        rw [if_pos rfl, if_pos rfl, if_neg (fun q => h q.symm)]
      · rw [if_neg h2, if_neg h2]
end
theorem keysOf_ent {α : Type} (f : α → V) : ∀ l : List (List UInt8 × α), keysOf (List.map (ent f) l) = some (List.map Prod.fst l)
  | [] => rfl
  | (k, x) :: r => by
    have ih := keysOf_ent f r
    simp only [List.map_cons]
    show (keysOf (List.map (ent f) r)).map (k :: ·) = _
    rw [ih]; rfl
end Go.Proofs.YtmjohmefhikelaaDoor.Pv
