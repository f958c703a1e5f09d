/- What a plain run comes to, read off. -/
import Derived.Test.YtiigffdmjdooeaaGreatDoorG1
import Derived.Test.YtiigffdmjdooeaaGreatDoorG2
set_option linter.unusedVariables false
namespace Go.Proofs.YtiigffdmjdooeaaGreatDoor.Pv
open Go Go.Proofs

def R.got {α : Type} (r : R α) : Option α :=
  match r with
  | .ok a => some a
  | _ => none
theorem R.of_got {α : Type} {r : R α} {a : α} (h : r.got = some a) : r = .ok a := by
  cases r with
  | ok b => simp only [R.got, Option.some.injEq] at h; rw [h]
  | pan v => cases h
  | stuck => cases h
end Go.Proofs.YtiigffdmjdooeaaGreatDoor.Pv
