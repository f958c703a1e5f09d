/- One operation, with Booleans. -/
import Derived.Test.YtpbnnbjkjaajnaaPxB
set_option linter.unusedVariables false
set_option linter.unusedSimpArgs false
set_option maxHeartbeats 1000000
namespace Go.Proofs.Ytpbnnbjkjaajnaa.Pv
open Go
section
variable (ty : Nat → Ty)
theorem aopX_up (tk : List Nat) (o : Oper) (env : EnvX) (h : H) : (aopX ty tk o env h).up = aop ty tk o env.toE h := by
  unfold aopX aop
  simp only [evF_eq, getF_eq]
  generalize o.op = q
  cases q <;> try rfl
  case load t a => exact loadX_up ..
  case store t a x => cases x <;> exact storeX_up ..
  case insert t m k x => exact updateX_up ..
  case mapUpdate t m k x => exact updateX_up ..
  case range t x => exact rangeOpX_up ..
  case entry x => exact entryOpX_up ..
  case next x b => cases b <;> first | exact nextOpX_up .. | exact nextMX_up ..
  case pick c a b => simp only []; rw [R1X.res_up, pickVX_up]
  case unOp op t x => simp only []; rw [R1X.res_up, unOpX_up]
  case convert s d x => simp only []; rw [R1X.res_up, convertX_up]
  case indexAddr t x i => simp only []; rw [R1X.res_up, indexAddrX_up]
  case index t x i => simp only []; rw [R1X.res_up, indexX_up]
  case lookup t m k c => simp only []; rw [R1X.res_up, lookupX_up]
  case slice t x lo hi mx =>
    cases mx with
    | none => exact sliceOpX_up ..
    | some m => simp only []; rw [R1X.res_up, slice3X_up]
  case binOp op t x y t' =>
    simp only []
    rw [← sliceNilX_up]
    cases sliceNilX ty op t _ _ _ env h with
    | none => simp only [Option.map_none, Option.getD_none]; rw [R1X.res_up, binOpTX_up]
    | some r => rfl
  case move x =>
    cases x <;> first
      | (simp [ResX.up, EnvX.put_toE]; done)
      | (simp only []; split <;> simp [ResX.up, EnvX.put_toE])
  case assign x =>
    cases x <;> first
      | (simp [ResX.up, EnvX.put_toE]; done)
      | (simp only []; split <;> simp [ResX.up, EnvX.put_toE])
  case alloc t => simp [ResX.up, EnvX.put_toE]
  case box t x => simp [ResX.up, EnvX.put_toE]
  case build t parts =>
    simp only []
    rw [← buildOkX_up]
    have := fillX_up ty (placeOf ty t) env parts.toList (decide (buildOkX ty t = true ∧ 0 < (ty t).size ∧ (ty t).zero.all V.plain = true)) (ty t).zero
    rw [decide_eq_true_eq] at this
    rw [← this]
    cases fillX ty (placeOf ty t) env parts.toList _ (ty t).zero <;> simp [upL, ResX.up, EnvX.put_toE]
  case buildSlice t n parts =>
    simp only []
    cases (ty t).k <;> try rfl
    rename_i el
    simp only []
    have := fillX_up ty (placeOf ty t) env parts.toList (decide (n * (ty el).size ≤ 16777216 ∧ 0 < (ty el).size ∧ (ty el).zero.all V.plain = true)) (repl (ty el).zero n)
    rw [decide_eq_true_eq] at this
    rw [← this]
    cases fillX ty (placeOf ty t) env parts.toList _ (repl (ty el).zero n) <;> simp [upL, ResX.up, EnvX.put_toE]
  case nilCheck x => simp only []; cases ev ty env.toE 0 x <;> simp [ResX.up, EnvX.put_toE]
  case makeInterface t x => simp only []; cases (ty t).k <;> simp [ResX.up, EnvX.put_toE]
  case makeFunc f fs cs => cases f <;> simp [ResX.up, EnvX.put_toE]
  case makeMap t x => cases x <;> simp [ResX.up, EnvX.put_toE]
  case makeSlice t l c =>
    simp only []
    cases (ty t).k <;> try rfl
    cases ev ty env.toE 0 l <;> try rfl
    cases ev ty env.toE 0 c <;> first | rfl | simp [ResX.up, EnvX.put_toE]
  case fieldAddr s x f =>
    simp only []
    cases fieldOf ty s f with
    | none => rfl
    | some q => cases ev ty env.toE 0 x <;> first | rfl | simp [ResX.up, EnvX.put_toE]
  case field s x f =>
    simp only []
    cases fieldOf ty s f with
    | none => rfl
    | some q => cases ev ty env.toE s x <;> first | rfl | simp [ResX.up, EnvX.put_toE]
  case extract t i =>
    simp only []
    cases ev ty env.toE 0 t <;> try rfl
    rename_i vs
    simp only []
    cases vs[i]? <;> simp [ResX.up, EnvX.put_toE]
  case panic x => simp only []; cases ev ty env.toE 0 x <;> simp [ResX.up, EnvX.put_toE]
  case typeAssert x a t ok =>
    simp only []
    cases ev ty env.toE 0 x <;> try rfl
    simp only []
    cases (ty t).k <;> first | rfl | (simp only []; split <;> simp [ResX.up, EnvX.put_toE])
  case call c =>
    obtain ⟨cal, args, ts⟩ := c
    cases cal <;> try rfl
    · simp only []
      cases ev ty env.toE 0 _ <;> try rfl
      rename_i fn fs cs
      cases fn <;> first | rfl | (simp only []; split <;> rfl)
    · simp only []
      split
      · exact rowAppX_up ..
      · exact builtinX_up ..
end
end Go.Proofs.Ytpbnnbjkjaajnaa.Pv
