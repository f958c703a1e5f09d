/- slices.Backward's iterator: it yields from the end on. -/
import Derived.Test.YtpbnnbjkjaajnaaPwYi
import Derived.Test.YtpbnnbjkjaajnaaTP
set_option linter.unusedVariables false
set_option linter.unusedSimpArgs false
set_option maxHeartbeats 4000000
set_option maxRecDepth 10000
namespace Go.Proofs.Ytpbnnbjkjaajnaa.Pv
open Go Go.Proofs
/-- A list from the end on, with the places. -/
def revTo {α : Type} (l : List α) : Nat → List (Int × α)
  | 0 => []
  | i + 1 => (match l[i]? with | some x => [((i : Int), x)] | none => []) ++ revTo l i
def revIdx {α : Type} (l : List α) : List (Int × α) := revTo l l.length
def backStep (e : Int × V) : Step := ([], [.int .i64 e.1, e.2])

section
variable {ty : Nat → Ty} {C : CallP} {n : Nat} {keep tk : List Nat} {l : Nat} {own : List Nat} {ops os : List Oper} {o : Oper} {K : YSt → Env → H → Prop} {Q : YSt → PostX} {s : YSt} {env : Env} {h : H} {a b : Code}
theorem ey_nil : evalOpsY ty C n tk l own ops K [] s env h = K s env h := rfl
theorem ey_cons : evalOpsY ty C n tk l own ops K (o :: os) s env h = match yOp l o env with
    | some zs => yieldK ty n own o zs (evalOpsY ty C n tk l own ops K os) s env h
    | none => runOp ty C n tk (wanted ops o env) o env h (evalOpsY ty C n tk l own ops K os s) (fun _ _ _ => False) := rfl
theorem y_seq (hw : wpY ty C n keep tk l own a (fun s => thenQ (wpY ty C n keep tk l own b Q s) (Q s)) s env h) : wpY ty C n keep tk l own (.seq a b) Q s env h := hw
theorem y_reg {id : Nat} {l' : List Oper} (hw : evalOpsY ty C n tk l own l' (fun s env h => Q s .normal (env.keep keep) h) l' s env h) : wpY ty C n keep tk l own (.region id ⟨l'⟩ false) Q s env h := ⟨rfl, hw⟩
theorem y_block {id : Nat} (hw : wpY ty C n keep tk l own b (fun s e env h => match e with | .exit id' => if id' = id then Q s .normal env h else Q s (.exit id') env h | e => Q s e env h) s env h) : wpY ty C n keep tk l own (.block id b) Q s env h := hw
theorem y_cond_t {c : Operand} (hc : ev ty env 0 c = .bool true) (hw : wpY ty C n keep tk l own a Q s env h) : wpY ty C n keep tk l own (.cond c a b) Q s env h := by simp only [wpY, hc, if_true]; exact hw
theorem y_cond_f {c : Operand} (hc : ev ty env 0 c = .bool false) (hw : wpY ty C n keep tk l own b Q s env h) : wpY ty C n keep tk l own (.cond c a b) Q s env h := by simp only [wpY, hc, Bool.false_eq_true, if_false]; exact hw
theorem y_exit {id : Nat} (hw : Q s (.exit id) env h) : wpY ty C n keep tk l own (.exit id) Q s env h := hw
theorem y_skip (hw : Q s .normal env h) : wpY ty C n keep tk l own .skip Q s env h := hw
theorem y_ret (hw : Q s .ret env h) : wpY ty C n keep tk l own .ret Q s env h := hw
/-- A loop: what holds at each round's begin, and becomes less. -/
theorem y_loop (J : Nat → YSt → Env → H → Prop) (hk : ∃ k, Wk s.hl (J k s) env h) (step : ∀ k s env h, (∀ k' < k, ∀ s env h, J k' s env h → ∀ N : YSt → Env → H → Prop, True) → J k s env h → ∀ N : YSt → Env → H → Prop, (∀ k' < k, ∀ s env h, J k' s env h → N s env h) → wpY ty C n keep tk l own b (fun s => thenQ (Wk s.hl (N s)) (Q s)) s env h) : wpY ty C n keep tk l own (.loop b) Q s env h := by
  intro I hI
  have all : ∀ k s env h, J k s env h → I s env h := by
    intro k
    induction k using Nat.strongRecOn with
    | ind k ih => exact fun s env h hj => hI s env h (step k s env h (fun _ _ _ _ _ _ _ => trivial) hj I fun k' hk' s env h hj' => ih k' hk' s env h hj')
  obtain ⟨k, env', h', hw, hk⟩ := hk
  exact ⟨env', h', hw, all k s env' h' hk⟩
end
end Go.Proofs.Ytpbnnbjkjaajnaa.Pv
