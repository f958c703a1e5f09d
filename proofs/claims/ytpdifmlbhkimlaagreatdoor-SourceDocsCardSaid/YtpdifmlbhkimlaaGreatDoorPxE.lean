/- A run that reckons: operations, regions, code; what it comes to holds of the evaluator. -/
import Derived.Test.YtpdifmlbhkimlaaGreatDoorPxD
import Derived.Test.YtpdifmlbhkimlaaGreatDoorPwS
set_option linter.unusedVariables false
set_option linter.unusedSimpArgs false
set_option maxHeartbeats 1000000
namespace Go.Proofs.YtpdifmlbhkimlaaGreatDoor.Pv
open Go
section
variable (ty : Nat → Ty) (call : FuncId → List V → H → Option (Out × H)) (n : Nat) (keep tk : List Nat)

def dstX : Option Nat → Bool
  | none => true
  | some i => Nat.ble (Nat.succ i) n
/-- A test for nil of a list that has something. -/
def nilX (o : Oper) (env : Env) : Option V :=
  match o.op with
  | .binOp op t x y t' =>
    (match op, (ty t).k, ev ty env t x, ev ty env t' y, isC x || isC y with
    | .eql, .slice _, .sl _ (_ :: _), .nils _ _, true => some (.bool false)
    | .neq, .slice _, .sl _ (_ :: _), .nils _ _, true => some (.bool true)
    | _, _, _, _, _ => none)
  | _ => none
/-- Which object an operation changes, or makes. -/
def atX (o : Oper) (env : Env) (h : H) : Option Nat :=
  match o.op with
  | .store _ a _ => (match ev ty env 0 a with | .ref id _ => some id | _ => none)
  | .load _ a => if tkB tk o.dst then (match ev ty env 0 a with | .ref id _ => some id | _ => none) else none
  | .insert t m _ _ => (match ev ty env t m with | .map id => some id | _ => none)
  | .mapUpdate t m _ _ => (match ev ty env t m with | .map id => some id | _ => none)
  | .next x _ => (match ev ty env 0 x with | .ref id _ => some id | _ => none)
  | .alloc _ => some h.length
  | .box _ _ => some h.length
  | .makeMap _ _ => some h.length
  | .makeSlice _ _ _ => some h.length
  | .range _ _ => some h.length
  | _ => none
def forceO {α : Type} (o : Oper) (v : V) (k : V → α) : α :=
  match o.op with
  | .move _ => V.whnf v k
  | .assign _ => V.whnf v k
  | .extract _ _ => V.whnf v k
  | .nilCheck _ => V.whnf v k
  | .call { callee := .value _, args := _, argTypes := _ } => k v
  | _ => V.force v k
def settle {α : Type} (i : Option Nat) (h : H) (k : H → α) : α := match i with | some i => forceN i fun i => forceAt i h k | none => k h
inductive SX where
  | val (v : V) (env : Env) (h : H)
  | pan (v : V) (h : H)
def opX (o : Oper) (env : Env) (h : H) : Option SX :=
  if dstX n o.dst then
    (match aopX ty tk o env h with
    | .val true v e h' => forceO o v fun v => settle (atX ty tk o env h) h' fun h' => some (.val v e h')
    | .call f args => V.whnfL args fun args => (match call f args h with | some (.ret v, h') => some (.val v env h') | some (.panic v, h') => some (.pan v h') | none => none)
    | .pan v => some (.pan v h)
    | .each _ => (match nilX ty o env with | some v => some (.val v env h) | none => none)
    | _ => none)
  else none
def opsX (ops : List Oper) : List Oper → Env → H → Option (Ex × Env × H)
  | [], env, h => some (.normal, env, h)
  | o :: os, env, h =>
    match wanted ops o env with
    | some true => (match opX ty call n tk o env h with
      | some (.val v e h') => (match o.dst with | some d => putF d v e fun e => opsX ops os e h' | none => forceE e fun e => opsX ops os e h')
      | some (.pan v h') => some (.panic v, env, h')
      | none => none)
    | some false => if dstX n o.dst then opsX ops os (putD o.dst env (.tup [])) h else none
    | none => none
/-- What writes nothing but its slot. -/
def plainX (o : Oper) : Bool :=
  match o.op with
  | .move (.tmp _) => false
  | .assign (.tmp _) => false
  | .move _ | .assign _ | .pick _ _ _ | .build _ _ | .buildSlice _ _ _ | .nilCheck _ | .unOp _ _ _ | .convert _ _ _ | .makeInterface _ _ | .fieldAddr _ _ _ | .field _ _ _ | .indexAddr _ _ _ | .index _ _ _ | .extract _ _ | .lookup _ _ _ _ | .slice _ _ _ _ (some _) => true
  | .binOp _ _ _ _ _ => true
  | .call { callee := .builtin .len, args := _, argTypes := _ } => true
  | .call { callee := .builtin .min, args := _, argTypes := _ } => true
  | .call { callee := .builtin .max, args := _, argTypes := _ } => true
  | _ => false
def bareX : V → Bool
  | .own _ _ _ => false
  | .cap _ _ => false
  | .pri _ _ _ _ => false
  | _ => true
def quietX (o : Oper) (env : Env) (h : H) : Option V :=
  match o.op with
  | .move (.tmp i) => if tkB tk o.dst && neD i o.dst then none else some (env.get i).demote
  | .assign (.tmp i) => if neD i o.dst then (if env.keys.contains i && bareX (env.get i) then some (env.get i).toOwn else none) else some (env.get i).demote
  | .load t a => if tkB tk o.dst then none else (match aopX ty tk o env h with | .val true v _ _ => some v | _ => none)
  | .slice t x lo hi none => if tkB tk o.dst then none else (match aopX ty tk o env h with | .val true v _ _ => some v | _ => none)
  | _ => if plainX o then (match aopX ty tk o env h with | .val true v _ _ => some v | _ => none) else
    (match aopX ty tk o env h with
    | .call f args => V.forceL args fun args => (match call f args h with | some (.ret v, h') => if heapB h' h then some v else none | _ => none)
    | _ => none)
def pureX (ops : List Oper) : List Oper → Env → H → Option Env
  | [], env, h => some env
  | o :: os, env, h =>
    match wanted ops o env with
    | some true => (match quietX ty call tk o env h with
      | some v => if dstX n o.dst then forceO o v fun v => (match o.dst with | some d => putF d v env fun e => pureX ops os e h | none => pureX ops os env h) else none
      | none => none)
    | some false => if dstX n o.dst then pureX ops os (putD o.dst env (.tup [])) h else none
    | none => none
/-- .. of each order that the edges let in. -/
def anyX (ops : List Oper) : Nat → Array Bool → Env → H → Option (List (Env × H))
  | 0, listed, env, h => if (Region.ready .any ops.toArray listed).isEmpty then some [(env, h)] else none
  | k + 1, listed, env, h =>
    if (Region.ready .any ops.toArray listed).isEmpty then some [(env, h)]
    else (Region.ready .any ops.toArray listed).foldr (fun i r =>
      match r, ops[i]? with
      | some l, some o =>
        (match wanted ops o env with
        | some true => (match opX ty call n tk o env h with
          | some (.val v e h') => (match anyX ops k (listed.setIfInBounds i true) (putD o.dst e v) h' with | some l' => some (l' ++ l) | none => none)
          | _ => none)
        | some false => if dstX n o.dst then (match anyX ops k (listed.setIfInBounds i true) (putD o.dst env (.tup [])) h with | some l' => some (l' ++ l) | none => none) else none
        | none => none)
      | _, _ => none) (some [])
/-- The slots that appends and cuts take. -/
def isApp (o : Oper) : Bool := match o.op with | .call c => (match c.callee with | .builtin .append => true | _ => false) | _ => false
def takesX (ops : List Oper) : List Nat :=
  ops.filterMap fun o => match o.op with
    | .slice _ _ _ _ _ => takeOf tk o
    | .call _ => takeOf tk o
    | .assign (.tmp s) => if ops.any (fun a => (match a.dst with | some d => Nat.beq d s | none => false) && isApp a) then takeOf tk o else none
    | _ => none
def quietM (T : List Nat) (o : Oper) (e : Env) (h h1 : H) : Option V :=
  if isM tk o then (match aopX ty tk o e h with | .val true v _ h' => if heapB h' h1 then some v else none | _ => none)
  else if (takeT tk T o).isSome then
    (match aopX ty tk o e h, aopX ty tk o e h1 with
    | .val true v _ _, .val true v2 _ _ => if V.beq v2 v then some v else none
    | _, _ => none)
  else (match quietX ty call tk o e h, quietX ty call tk o e h1 with
    | some v, some v2 => if V.beq v2 v then some v else none
    | _, _ => none)
def pureMX (T : List Nat) (ops : List Oper) (h h1 : H) : List Oper → Env → Option Env
  | [], e => some e
  | o :: os, e =>
    match wanted ops o e with
    | some true => (match quietM ty call tk T o e h h1 with
      | some v => if dstX n o.dst then forceO o v fun v => (match o.dst with | some d => putF d v e fun e => pureMX T ops h h1 os e | none => pureMX T ops h h1 os e) else none
      | none => none)
    | some false => if dstX n o.dst then pureMX T ops h h1 os (putD o.dst e (.tup [])) else none
    | none => none
/-- The heap behind the load that moves. -/
def heapM (ops : List Oper) : List Oper → Env → H → Option H
  | [], _, _ => none
  | o :: os, e, h =>
    match wanted ops o e with
    | some true => (match opX ty call n tk o e h with
      | some (.val v e' h') => if isM tk o then some h' else heapM ops os (putD o.dst e' v) h'
      | _ => none)
    | some false => heapM ops os (putD o.dst e (.tup [])) h
    | none => none
def behindM (ops : List Oper) (env : Env) (h : H) : Option H := if ops.any (isM tk) then heapM ty call n tk ops ops env h else some h
def lastSt (ops : List Oper) : Option (Nat × Nat × Nat) :=
  match ops[ops.length - 1]? with
  | some o => (match o.op, o.guard, o.dst with
    | .store t (.tmp a) (.tmp x), none, none => some (t, a, x)
    | _, _, _ => none)
  | none => none
def condM (T ks : List Nat) (env : Env) (l : List Oper) : Bool := ordB [] l && (oneM tk T l && (keptB l ks env.keys && takeB tk T l ks))
def drawMX (ops : List Oper) (env : Env) (h : H) : Option (Ex × Env × H) :=
  match lastSt ops with
  | some (t, a, x) =>
    if !(takesX tk ops).contains a && !(takesX tk ops).contains x && !keep.contains x && !(a == x) && decide (ops.length = (ops.length - 1) + 1) &&
        condM tk (takesX tk ops) keep env (ops.take (ops.length - 1)) && coverB ops (ops.length - 1) && backB ops then
      (match behindM ty call n tk (ops.take (ops.length - 1)) env h with
      | some h1 => (match pureMX ty call n tk (takesX tk ops) (ops.take (ops.length - 1)) h h1 (ops.take (ops.length - 1)) env with
        | some g => (match storeX ty t (getF g a).demote (getF g x) [] h1 with
          | .val true _ _ h' => keepF keep g fun e => (match (getF g a).demote with | .ref id _ => forceN id fun id => forceAt id h' fun h' => some (.normal, e, h') | _ => none)
          | _ => none)
        | none => none)
      | none => none)
    else none
  | none =>
    if condM tk (takesX tk ops) keep env ops then
      (match behindM ty call n tk ops env h with
      | some h1 => (match pureMX ty call n tk (takesX tk ops) ops h h1 ops env with
        | some g => keepF keep g fun e => some (.normal, e, h1)
        | none => none)
      | none => none)
    else none
def drawX (ops : List Oper) (env : Env) (h : H) : Option (Ex × Env × H) :=
  if ordB tk ops && keptB ops keep env.keys then
    (match pureX ty call n tk ops ops env h with
    | some e => keepF keep e fun e => some (.normal, e, h)
    | none => none)
  else match drawMX ty call n keep tk ops env h with
  | some r => some r
  | none =>
    if 8 < ops.length then none else
    match anyX ty call n tk ops ops.length (Array.replicate ops.length false) env h with
    | some ((e, h') :: r) => if r.all (fun q => envB (q.1.keep keep) (e.keep keep) && heapB q.2 h') then some (.normal, e.keep keep, h') else none
    | _ => none
def codeX : Nat → Code → Env → H → Option (Ex × Env × H)
  | 0, _, _, _ => none
  | k + 1, c, env, h =>
    match c with
    | .skip => some (.normal, env, h)
    | .region _ ops draw =>
      if draw then drawX ty call n keep tk ops.toList env h
      else (match inPl ops.toList with
        | some _ => none
        | none => (match opsX ty call n tk ops.toList ops.toList env h with
          | some (.normal, e, h') => keepF keep e fun e => some (.normal, e, h')
          | r => r))
    | .seq a b => (match codeX k a env h with | some (.normal, e, h') => codeX k b e h' | r => r)
    | .cond c a b => (match ev ty env 0 c with | .bool t => codeX k (if t = true then a else b) env h | _ => none)
    | .block id b => (match codeX k b env h with | some (.exit i, e, h') => if i = id then some (.normal, e, h') else some (.exit i, e, h') | r => r)
    | .loop b => (match codeX k b env h with | some (.normal, e, h') => codeX k (.loop b) e h' | r => r)
    | .exit id => some (.exit id, env, h)
    | .ret => some (.ret, env, h)
    | _ => none
end
section
variable {ty : Nat → Ty} {call : FuncId → List V → H → Option (Out × H)} {C : CallP} {n : Nat} {keep tk : List Nat}
theorem dstX_ok {d : Option Nat} (h : dstX n d = true) : dstOk n d := by
  cases d with
  | none => trivial
  | some i =>
    have : i < n := Nat.le_of_ble_eq_true h
    exact this
theorem forceO_eq {α : Type} (o : Oper) (v : V) (k : V → α) : forceO o v k = k v := by
  unfold forceO
  split <;> first | exact V.whnf_eq .. | rfl | exact V.force_eq ..
theorem settle_eq {α : Type} (i : Option Nat) (h : H) (k : H → α) : settle i h k = k h := by cases i <;> simp [settle, forceN_eq, forceAt_eq]
theorem aop_of {o : Oper} {env : Env} {h : H} {r : ResX} (he : aopX ty tk o env h = r) : aop ty tk o env h = r.up := by rw [← aopX_up, he]
theorem nilX_each {o : Oper} {env : Env} {h : H} {v : V} (hn : nilX ty o env = some v) {f : Value → Res} (ha : aop ty tk o env h = .each f) : ∀ u, f u = .val True v env h := by
  unfold nilX at hn
  split at hn
  case h_2 => cases hn
  rename_i op t x y t' ho
  unfold aop at ha
  rw [ho] at ha
  simp only [] at ha
  split at hn
  · rename_i h1 h2 h3 h4
    simp only [Option.some.injEq] at hn
    subst hn
    unfold sliceNil at ha
    rw [h1, h2, h3] at ha
    simp only [h4, if_true, Option.getD_some, Res.each.injEq] at ha
    subst ha
    intro u; rfl
  · rename_i h1 h2 h3 h4
    simp only [Option.some.injEq] at hn
    subst hn
    unfold sliceNil at ha
    rw [h1, h2, h3] at ha
    simp only [h4, if_true, Option.getD_some, Res.each.injEq] at ha
    subst ha
    intro u; rfl
  · cases hn
def CallOK (C : CallP) (call : FuncId → List V → H → Option (Out × H)) : Prop := ∀ f args h r h', call f args h = some (r, h') → ∀ Q : Out → H → Prop, Q r h' → C f args h Q
theorem opX_sound (hc : CallOK C call) {o : Oper} {env : Env} {h : H} {s : SX} (hs : opX ty call n tk o env h = some s) {Kc : Env → H → Prop} {X : V → Env → H → Prop}
    (hk : match s with | .val v e h' => Kc (putD o.dst e v) h' | .pan v h' => X v env h') : (aop ty tk o env h).upon C n o env h Kc X := by
  unfold opX at hs
  simp only [forceO_eq, V.whnfL_eq, settle_eq] at hs
  split at hs
  case isFalse => cases hs
  rename_i hd
  have hd := dstX_ok hd
  split at hs
  · rename_i v e h' ha
    simp only [Option.some.injEq] at hs
    subst hs
    rw [aop_of ha]
    exact ⟨rfl, hd, hk⟩
  · rename_i f args ha
    rw [aop_of ha]
    split at hs
    · rename_i v h' hcl
      simp only [Option.some.injEq] at hs
      subst hs
      exact ⟨hd, hc _ _ _ _ _ hcl _ hk⟩
    · rename_i v h' hcl
      simp only [Option.some.injEq] at hs
      subst hs
      exact ⟨hd, hc _ _ _ _ _ hcl _ hk⟩
    · cases hs
  · rename_i v ha
    simp only [Option.some.injEq] at hs
    subst hs
    rw [aop_of ha]
    exact hk
  · rename_i f ha
    split at hs
    · rename_i v hn
      simp only [Option.some.injEq] at hs
      subst hs
      have ha2 := aop_of ha
      have hf := nilX_each hn ha2
      rw [ha2]
      intro u
      have h9 : ResX.up (f u) = .val True v env h := hf u
      show (ResX.up (f u)).upon C n o env h Kc X
      rw [h9]
      exact ⟨trivial, hd, hk⟩
    · cases hs
  · cases hs
theorem opsX_sound (hc : CallOK C call) {ops : List Oper} {Kc : Env → H → Prop} {X : V → Env → H → Prop} : ∀ (l : List Oper) (env : Env) (h : H) (e : Ex) (env' : Env) (h' : H), opsX ty call n tk ops l env h = some (e, env', h') →
    (e = .normal → Kc env' h') → (∀ v, e = .panic v → X v env' h') → evalOps ty C n tk ops l Kc X env h
  | [], env, h, e, env', h', hs, h1, h2 => by
    simp only [opsX, Option.some.injEq, Prod.mk.injEq] at hs
    obtain ⟨rfl, rfl, rfl⟩ := hs
    exact h1 rfl
  | o :: os, env, h, e, env', h', hs, h1, h2 => by
    unfold opsX at hs
    show runOp ty C n tk (wanted ops o env) o env h (evalOps ty C n tk ops os Kc X) X
    split at hs
    · rename_i hw
      rw [hw]
      split at hs
      · rename_i v e1 h1' ho
        have hs2 : opsX ty call n tk ops os (putD o.dst e1 v) h1' = some (e, env', h') := by
          revert hs
          unfold putD
          cases o.dst <;> simp only [putF_eq, forceE_eq] <;> exact fun h => h
        exact opX_sound hc ho (opsX_sound hc os _ _ _ _ _ hs2 h1 h2)
      · rename_i v h1' ho
        simp only [Option.some.injEq, Prod.mk.injEq] at hs
        obtain ⟨rfl, rfl, rfl⟩ := hs
        exact opX_sound hc ho (h2 v rfl)
      · cases hs
    · rename_i hw
      rw [hw]
      split at hs
      · rename_i hd
        exact ⟨dstX_ok hd, opsX_sound hc os _ _ _ _ _ hs h1 h2⟩
      · cases hs
    · cases hs
theorem plainX_same {o : Oper} (hp : plainX o = true) {env : Env} {h : H} {p : Prop} {v : V} {e' : Env} {h' : H} (ha : aop ty tk o env h = .val p v e' h') : e' = env ∧ h' = h := by
  have hres : ∀ {r : R1}, r.res env h = .val p v e' h' → e' = env ∧ h' = h := fun {r} hr => by
    cases r with
    | ok q u => simp only [R1.res, Res.val.injEq] at hr; exact ⟨hr.2.2.1.symm, hr.2.2.2.symm⟩
    | bad => cases hr
  unfold plainX at hp
  unfold aop at ha
  generalize o.op = q at hp ha
  cases q <;> first | (cases hp; done) | skip
  case move x => cases x <;> first | (cases hp; done) | (simp only [Res.val.injEq] at ha; exact ⟨ha.2.2.1.symm, ha.2.2.2.symm⟩)
  case assign x => cases x <;> first | (cases hp; done) | (simp only [Res.val.injEq] at ha; exact ⟨ha.2.2.1.symm, ha.2.2.2.symm⟩)
  case slice t x lo hi m =>
    cases m with
    | none => cases hp
    | some m => exact hres ha
  case binOp op t x y t' =>
    obtain ⟨_, ha⟩ := sliceNil_res ty ha (by simp)
    exact hres ha
  case call c =>
    obtain ⟨cal, args, ts⟩ := c
    cases cal <;> first | (cases hp; done) | skip
    rename_i b
    cases b <;> first | (cases hp; done) | skip
    all_goals
      replace ha : builtin ty _ ts.toList args.toList env h = _ := ha
      unfold builtin at ha
      repeat' split at ha
    all_goals first
      | exact hres ha
      | (cases ha; done)
      | (simp_all; done)
  all_goals first
    | exact hres ha
    | (simp only [] at ha; repeat' split at ha)
  all_goals first
    | (cases ha; done)
    | (simp only [Res.val.injEq] at ha; exact ⟨ha.2.2.1.symm, ha.2.2.2.symm⟩)
theorem aopX_val {o : Oper} {env : Env} {h : H} {v : V} {e : Env} {h' : H} (hx : aopX ty tk o env h = .val true v e h') : aop ty tk o env h = .val (true = true) v e h' := aop_of hx
theorem load_same {t : Nat} {ln : Bool} {a : V} {env : Env} {h : H} {p : Prop} {v : V} {e' : Env} {h' : H} (ha : load ty t false ln a env h = .val p v e' h') : e' = env ∧ h' = h := by
  unfold load at ha
  split at ha
  · simp only [Res.val.injEq] at ha; exact ⟨ha.2.2.1.symm, ha.2.2.2.symm⟩
  · split at ha
    · split at ha
      · simp only [Res.val.injEq] at ha; exact ⟨ha.2.2.1.symm, ha.2.2.2.symm⟩
      · split at ha
        · rename_i hf; cases hf
        · split at ha
          · simp only [Res.val.injEq] at ha; exact ⟨ha.2.2.1.symm, ha.2.2.2.symm⟩
          · unfold loadN at ha
            split at ha
            · cases ha
            · simp only [Res.val.injEq] at ha; exact ⟨ha.2.2.1.symm, ha.2.2.2.symm⟩
    · cases ha
  · cases ha
theorem bareX_demote {v : V} (h : bareX v = true) : v.demote = v := by cases v <;> first | rfl | (cases h)
theorem put_get {i : Nat} : ∀ {env : Env}, i ∈ env.keys → env.put i (env.get i) = env
  | [], h => by simp [Env.keys] at h
  | (j, u) :: r, h => by
    by_cases e : i = j
    · subst e; simp [Env.put, Env.get]
    · have h2 : i ∈ Env.keys r := by
        simp only [Env.keys, List.map_cons, List.mem_cons] at h ⊢
        exact h.resolve_left e
      simp only [Env.put, Env.get, if_neg e]
      rw [put_get h2]
/-- What a quiet operation yields. -/
theorem quietX_sound (hc : CallOK C call) {o : Oper} {env : Env} {h : H} {v : V} (hs : quietX ty call tk o env h = some v) :
    (∃ p, aop ty tk o env h = .val p v env h ∧ p) ∨ ∃ f args, aop ty tk o env h = .call f args ∧ ∀ Q : Out → H → Prop, Q (.ret v) h → C f args h Q := by
  unfold quietX at hs
  simp only [V.forceL_eq] at hs
  split at hs
  · rename_i i ho
    split at hs
    · cases hs
    · rename_i hb
      simp only [Option.some.injEq] at hs
      subst hs
      refine .inl ⟨True, ?_, trivial⟩
      unfold aop
      rw [ho]
      simp only []
      rw [if_neg hb]
  · rename_i i ho
    split at hs
    · rename_i hb
      split at hs
      · rename_i hk
        simp only [Option.some.injEq] at hs
        subst hs
        simp only [Bool.and_eq_true] at hk
        refine .inl ⟨True, ?_, trivial⟩
        unfold aop
        rw [ho]
        simp only []
        rw [if_pos hb, bareX_demote hk.2, put_get (by simpa using hk.1)]
      · cases hs
    · rename_i hb
      simp only [Option.some.injEq] at hs
      subst hs
      refine .inl ⟨True, ?_, trivial⟩
      unfold aop
      rw [ho]
      simp only []
      rw [if_neg hb]
  · rename_i t a ho
    split at hs
    · cases hs
    · rename_i hb
      split at hs
      · rename_i v' e' h' hx
        simp only [Option.some.injEq] at hs
        subst hs
        have ha := aopX_val hx
        have ha2 := ha
        unfold aop at ha2
        rw [ho] at ha2
        simp only [] at ha2
        rw [show tkB tk o.dst = false from by simpa using hb] at ha2
        obtain ⟨rfl, rfl⟩ := load_same ha2
        exact .inl ⟨_, ha, rfl⟩
      · cases hs
  · rename_i t x lo hi ho
    split at hs
    · cases hs
    · rename_i hb
      split at hs
      · rename_i v' e' h' hx
        simp only [Option.some.injEq] at hs
        subst hs
        have ha := aopX_val hx
        have ha2 := ha
        unfold aop at ha2
        rw [ho] at ha2
        simp only [] at ha2
        rw [show tkB tk o.dst = false from by simpa using hb, sliceOp_ff] at ha2
        have : e' = env ∧ h' = h := by
          generalize slice ty t _ _ _ = r at ha2
          cases r with
          | ok q u => simp only [R1.res, Res.val.injEq] at ha2; exact ⟨ha2.2.2.1.symm, ha2.2.2.2.symm⟩
          | bad => cases ha2
        obtain ⟨rfl, rfl⟩ := this
        exact .inl ⟨_, ha, rfl⟩
      · cases hs
  · split at hs
    · rename_i hp
      split at hs
      · rename_i v' e' h' hx
        simp only [Option.some.injEq] at hs
        subst hs
        have ha := aopX_val hx
        obtain ⟨rfl, rfl⟩ := plainX_same hp ha
        exact .inl ⟨_, ha, rfl⟩
      · cases hs
    · split at hs
      · rename_i f args hx
        split at hs
        · rename_i v' h' hcl
          split at hs
          · rename_i hb
            simp only [Option.some.injEq] at hs
            subst hs
            have := heapB_eq _ _ hb
            subst this
            exact .inr ⟨f, args, aop_of hx, hc _ _ _ _ _ hcl⟩
          · cases hs
        · cases hs
      · cases hs
theorem pureX_sound (hc : CallOK C call) {ops : List Oper} {K : Env → Prop} : ∀ (l : List Oper) (env : Env) (h : H) (e : Env), pureX ty call n tk ops l env h = some e → K e → evalPure ty C n tk ops h l K env
  | [], env, h, e, hs, hk => by
    simp only [pureX, Option.some.injEq] at hs
    subst hs
    exact hk
  | o :: os, env, h, e, hs, hk => by
    unfold pureX at hs
    simp only [forceO_eq] at hs
    rw [evalPure_cons]
    unfold pureK
    split at hs
    · rename_i hw
      rw [hw]
      split at hs
      · rename_i v hq
        split at hs
        · rename_i hd
          have hs2 : pureX ty call n tk ops os (putD o.dst env v) h = some e := by
            revert hs
            unfold putD
            cases o.dst <;> simp only [putF_eq] <;> exact fun h => h
          have ih := pureX_sound hc os _ h e hs2 hk
          rcases quietX_sound hc hq with ⟨p, ha, hp⟩ | ⟨f, args, ha, hcl⟩
          · simp only [ha]
            exact ⟨hp, trivial, trivial, dstX_ok hd, ih⟩
          · simp only [ha]
            exact ⟨v, hcl, dstX_ok hd, ih⟩
        · cases hs
      · cases hs
    · rename_i hw
      rw [hw]
      split at hs
      · rename_i hd
        exact ⟨dstX_ok hd, pureX_sound hc os _ h e hs hk⟩
      · cases hs
    · cases hs
theorem foldr_each {α β : Type} {F : β → Option α → Option α} {a0 : α} {P : α → Prop} {R : β → Prop} (hF : ∀ i r l, F i r = some l → P l → ∃ l0, r = some l0 ∧ P l0 ∧ R i) : ∀ (rd : List β) (l : α), List.foldr F (some a0) rd = some l → P l → ∀ i ∈ rd, R i
  | [], l, _, _, i, hi => by cases hi
  | j :: rd, l, hs, hp, i, hi => by
    rw [List.foldr_cons] at hs
    obtain ⟨l0, h1, h2, h3⟩ := hF _ _ _ hs hp
    rcases List.mem_cons.1 hi with rfl | hi
    · exact h3
    · exact foldr_each hF rd l0 h1 h2 i hi
theorem anyX_sound (hc : CallOK C call) {ops : List Oper} {Kc : Env → H → Prop} {X : V → Env → H → Prop} : ∀ (k : Nat) (listed : Array Bool) (env : Env) (h : H) (l : List (Env × H)), anyX ty call n tk ops k listed env h = some l →
    (∀ q ∈ l, Kc q.1 q.2) → evalAny ty C n tk ops Kc X k listed env h
  | 0, listed, env, h, l, hs, hk => by
    unfold anyX at hs
    split at hs
    · rename_i he
      simp only [Option.some.injEq] at hs
      subst hs
      exact ⟨List.isEmpty_iff.1 he, hk (env, h) (by simp)⟩
    · cases hs
  | k + 1, listed, env, h, l, hs, hk => by
    unfold anyX at hs
    split at hs
    · rename_i he
      simp only [Option.some.injEq] at hs
      subst hs
      refine ⟨fun _ => hk (env, h) (by simp), fun i hi => ?_⟩
      rw [List.isEmpty_iff.1 he] at hi
      cases hi
    · rename_i he
      refine ⟨fun h0 => absurd (List.isEmpty_iff.2 h0) he, ?_⟩
      refine foldr_each (P := fun l => ∀ q ∈ l, Kc q.1 q.2) (fun i r l hF hk => ?_) _ l hs hk
      split at hF
      · rename_i l0 o ho
        have step : ∀ (f : Option (List (Env × H))), (match f with | some l' => some (l' ++ l0) | none => none) = some l → ∃ l', f = some l' ∧ (∀ q ∈ l', Kc q.1 q.2) ∧ ∀ q ∈ l0, Kc q.1 q.2 := fun f hf => by
          cases f with
          | none => cases hf
          | some l' =>
            simp only [Option.some.injEq] at hf
            subst hf
            exact ⟨l', rfl, fun q hq => hk q (List.mem_append_left _ hq), fun q hq => hk q (List.mem_append_right _ hq)⟩
        split at hF
        · rename_i hw
          split at hF
          · rename_i v e h1 hop
            obtain ⟨l', h2, h3, h4⟩ := step _ hF
            refine ⟨l0, rfl, h4, o, ho, ?_⟩
            rw [hw]
            exact opX_sound hc hop (anyX_sound hc k _ _ _ _ h2 h3)
          · cases hF
        · rename_i hw
          split at hF
          · rename_i hd
            obtain ⟨l', h2, h3, h4⟩ := step _ hF
            refine ⟨l0, rfl, h4, o, ho, ?_⟩
            rw [hw]
            exact ⟨dstX_ok hd, anyX_sound hc k _ _ _ _ h2 h3⟩
          · cases hF
        · cases hF
      · cases hF
theorem call_heap {o : Oper} {env : Env} {h : H} {f : FuncId} {args : List V} (ha : aop ty tk o env h = .call f args) (h1 : H) : aop ty tk o env h1 = .call f args := by
  obtain ⟨dst, op, type, pos, after, guard⟩ := o
  have hop : ∃ fo as ts, op = .call { callee := .value fo, args := as, argTypes := ts } := by
    unfold aop at ha
    split at ha
    case h_29 fo as ts ho => exact ⟨fo, as, ts, ho⟩
    case h_14 => exact (R1.res_call (sliceNil_res ty ha (by simp)).2).elim
    all_goals (exfalso; repeat' split at ha)
    all_goals first
      | (cases ha; done)
      | exact R1.res_call ha
      | exact load_call ha
      | exact store_call ha
      | exact builtin_call ha
      | exact rangeOp_call _ ha
      | exact nextOp_call ha
      | exact nextM_call ha
      | exact entryOp_call ha
      | exact update_call _ ha
      | exact sliceOp_call _ ha
  obtain ⟨fo, as, ts, rfl⟩ := hop
  exact ha
theorem val_call {o : Oper} {env : Env} {h h1 : H} {p : Prop} {v : V} {e : Env} {h' : H} {f : FuncId} {args : List V} (ha : aop ty tk o env h = .val p v e h') : ¬ aop ty tk o env h1 = .call f args := fun hc => by
  have := call_heap hc h
  rw [ha] at this; cases this
theorem call_same {o : Oper} {env : Env} {h h1 : H} {f f2 : FuncId} {args args2 : List V} (ha : aop ty tk o env h = .call f args) (hb : aop ty tk o env h1 = .call f2 args2) : f2 = f ∧ args2 = args := by
  have := call_heap ha h1
  rw [hb] at this
  injection this with e1 e2
  exact ⟨e1, e2⟩
theorem take_heap {o : Oper} {q : Nat} (ht : takeOf tk o = some q) {env : Env} {h : H} {p : Prop} {v : V} {e' : Env} {h' : H} (ha : aop ty tk o env h = .val p v e' h') : h' = h := by
  unfold takeOf at ht
  unfold aop at ha
  generalize o.op = w at ht ha
  cases w <;> try (cases ht; done)
  case assign x =>
    cases x <;> try (cases ht; done)
    simp only [] at ha
    split at ha <;> (simp only [Res.val.injEq] at ha; exact ha.2.2.2.symm)
  case slice t x lo hi m =>
    cases m with
    | some m => cases x <;> cases lo <;> cases hi <;> cases ht
    | none =>
      rcases sliceOp_val ty _ ha with ⟨p1, v1, e1, hr⟩ | hr
      · simp only [Res.val.injEq] at hr; exact hr.2.2.2
      · cases hr
  case call c =>
    obtain ⟨cal, args, ts⟩ := c
    cases cal with
    | value f => cases ht
    | builtin b =>
      cases b <;> try (simp at ht; done)
      replace ha : builtin ty .append ts.toList args.toList env h = _ := ha
      unfold builtin at ha
      split at ha <;> try (cases ha; done)
      all_goals first
        | (split at ha
           · generalize append ty _ _ _ = r at ha
             cases r with
             | ok q u => simp only [R1.res, Res.val.injEq] at ha; exact ha.2.2.2.symm
             | bad => cases ha
           · cases ha)
        | (rename_i hb _ _; cases hb)
        | (rename_i hb; cases hb)
    | _ => cases ht
theorem isM_load {o : Oper} (hm : isM tk o = true) {env : Env} {h : H} {p : Prop} {v : V} {e' : Env} {h' : H} (ha : aop ty tk o env h = .val p v e' h') : e' = env := by
  unfold isM at hm
  unfold aop at ha
  generalize o.op = w at hm ha
  cases w <;> try (cases hm; done)
  simp only [] at ha
  unfold load at ha
  repeat' split at ha
  all_goals first
    | (cases ha; done)
    | (simp only [Res.val.injEq] at ha; exact ha.2.2.1.symm)
    | (unfold loadN at ha; split at ha <;> first | (cases ha; done) | (simp only [Res.val.injEq] at ha; exact ha.2.2.1.symm))
theorem pureMX_sound (hc : CallOK C call) {T : List Nat} {ops : List Oper} {h h1 : H} {K : Env → Prop} : ∀ (l : List Oper) (env : Env) (e : Env), pureMX ty call n tk T ops h h1 l env = some e → K e → evalPureM ty C n tk T ops h h1 l K env
  | [], env, e, hs, hk => by
    simp only [pureMX, Option.some.injEq] at hs
    subst hs
    exact hk
  | o :: os, env, e, hs, hk => by
    unfold pureMX at hs
    show pureKM ty C n tk T h h1 (wanted ops o env) o env (evalPureM ty C n tk T ops h h1 os K)
    unfold pureKM
    split at hs
    · rename_i hw
      rw [hw]
      split at hs
      · rename_i v hq
        split at hs
        · rename_i hd
          simp only [forceO_eq] at hs
          have hs2 : pureMX ty call n tk T ops h h1 os (putD o.dst env v) = some e := by
            revert hs
            unfold putD
            cases o.dst <;> simp only [putF_eq] <;> exact fun h => h
          have ih := pureMX_sound hc os _ e hs2 hk
          have hd := dstX_ok hd
          unfold quietM at hq
          simp only []
          by_cases hm : isM tk o = true
          · rw [if_pos hm] at hq
            split at hq
            · rename_i v' e1 h' hx
              split at hq
              · rename_i hb
                simp only [Option.some.injEq] at hq
                subst hq
                have ha := aopX_val hx
                have he := isM_load hm ha
                have hh := heapB_eq _ _ hb
                rw [hm, ha]
                exact ⟨rfl, he, hh, hd, ih⟩
              · cases hq
            · cases hq
          · rw [if_neg hm] at hq
            rw [show isM tk o = false from by simpa using hm]
            by_cases ht : (takeT tk T o).isSome = true
            · rw [if_pos ht] at hq
              split at hq
              · rename_i v1 e1 h1' v2 e2 h2' hx1 hx2
                split at hq
                · rename_i hb
                  simp only [Option.some.injEq] at hq
                  subst hq
                  obtain ⟨q, hq⟩ := Option.isSome_iff_exists.1 ht
                  have ha1 := aopX_val hx1
                  have ha2 := aopX_val hx2
                  have g1 := take_heap (takeT_of hq).1 ha1
                  have g2 := take_heap (takeT_of hq).1 ha2
                  rw [ha1, ha2]
                  exact ⟨rfl, (fun hn => by rw [hq] at hn; cases hn), g1, rfl, V.beq_eq _ _ hb, (fun hn => by rw [hq] at hn; cases hn), g2, hd, ih⟩
                · cases hq
              · cases hq
            · rw [if_neg ht] at hq
              split at hq
              · rename_i v1 v2 hx1 hx2
                split at hq
                · rename_i hb
                  simp only [Option.some.injEq] at hq
                  subst hq
                  have hv := V.beq_eq _ _ hb
                  subst hv
                  rcases quietX_sound hc hx1 with ⟨p1, ha1, hp1⟩ | ⟨f1, args1, ha1, hcl1⟩
                  · rcases quietX_sound hc hx2 with ⟨p2, ha2, hp2⟩ | ⟨f2, args2, ha2, hcl2⟩
                    · rw [ha1, ha2]
                      exact ⟨hp1, fun _ => rfl, rfl, hp2, rfl, fun _ => rfl, rfl, hd, ih⟩
                    · exact absurd ha2 (val_call ha1)
                  · rcases quietX_sound hc hx2 with ⟨p2, ha2, hp2⟩ | ⟨f2, args2, ha2, hcl2⟩
                    · exact absurd ha1 (val_call ha2)
                    · obtain ⟨rfl, rfl⟩ := call_same ha1 ha2
                      rw [ha1, ha2]
                      exact ⟨rfl, rfl, _, hcl1, hcl2, hd, ih⟩
                · cases hq
              · cases hq
        · cases hs
      · cases hs
    · rename_i hw
      rw [hw]
      split at hs
      · rename_i hd
        exact ⟨dstX_ok hd, pureMX_sound hc os _ e hs hk⟩
      · cases hs
    · cases hs
theorem condM_ok {T ks : List Nat} {env : Env} {l : List Oper} (h : condM tk T ks env l = true) : ordB [] l = true ∧ oneM tk T l = true ∧ keptB l ks env.keys = true ∧ takeB tk T l ks = true := by
  unfold condM at h
  simp only [Bool.and_eq_true] at h
  exact h
theorem behindM_none {ops : List Oper} {env : Env} {h h1 : H} (hs : behindM ty call n tk ops env h = some h1) : (∀ (i : Nat) (o : Oper), ops[i]? = some o → isM tk o = false) → h = h1 := by
  intro hn
  unfold behindM at hs
  split at hs
  · rename_i hany
    obtain ⟨o, ho, hm⟩ := List.any_eq_true.1 hany
    obtain ⟨i, hi⟩ := List.getElem?_of_mem ho
    rw [hn i o hi] at hm
    cases hm
  · simp only [Option.some.injEq] at hs; exact hs
theorem drawMX_sound (hc : CallOK C call) (hC : CMono C C) {id : Nat} {ops : List Oper} {env : Env} {h : H} {e : Ex} {env' : Env} {h' : H} (hs : drawMX ty call n keep tk ops env h = some (e, env', h')) {Q : PostX} (hq : Q e env' h') :
    wp ty C n keep tk (.region id ⟨ops⟩ true) Q env h := by
  unfold drawMX at hs
  simp only [keepF_eq] at hs
  split at hs
  · rename_i t a x hl
    split at hs
    · rename_i hcond
      simp only [Bool.and_eq_true, decide_eq_true_eq, Bool.not_eq_true'] at hcond
      obtain ⟨⟨⟨⟨⟨⟨⟨c1, c2⟩, c4⟩, c5⟩, c6⟩, c7⟩, c8⟩, c9⟩ := hcond
      obtain ⟨m1, m2, m3, m4⟩ := condM_ok c7
      unfold lastSt at hl
      split at hl
      · rename_i last hlast
        split at hl
        · rename_i t' a' x' ho hg hd
          simp only [Option.some.injEq, Prod.mk.injEq] at hl
          obtain ⟨rfl, rfl, rfl⟩ := hl
          split at hs
          · rename_i h1 hb
            split at hs
            · rename_i g hp
              split at hs
              · rename_i v2 e2 h2 hst
                refine wp_drawMS h1 (takesX tk ops) hC (ops.length - 1) hlast c6 ho hg hd (by rw [c1, c2, c4, c5]; rfl) m1 m2 (behindM_none hb) m3 m4 c8 c9 (pureMX_sound hc _ _ _ hp ?_)
                rw [getF_eq, getF_eq] at hst
                have hst2 : store ty t' (g.get a').demote (g.get x') [] h1 = .val (true = true) v2 e2 h2 := by rw [← storeX_up, hst]; rfl
                unfold stK
                rw [hst2]
                refine ⟨rfl, ?_⟩
                split at hs
                · simp only [forceN_eq, forceAt_eq, Option.some.injEq, Prod.mk.injEq] at hs
                  obtain ⟨rfl, rfl, rfl⟩ := hs
                  exact hq
                · cases hs
              · cases hs
            · cases hs
          · cases hs
        · cases hl
      · cases hl
    · cases hs
  · split at hs
    · rename_i hcond
      obtain ⟨m1, m2, m3, m4⟩ := condM_ok hcond
      split at hs
      · rename_i h1 hb
        split at hs
        · rename_i g hp
          simp only [Option.some.injEq, Prod.mk.injEq] at hs
          obtain ⟨rfl, rfl, rfl⟩ := hs
          exact wp_drawM h1 (takesX tk ops) hC m1 m2 (behindM_none hb) m3 m4 (pureMX_sound hc _ _ _ hp hq)
        · cases hs
      · cases hs
    · cases hs
theorem drawX_sound (hc : CallOK C call) (hC : CMono C C) {id : Nat} {ops : List Oper} {env : Env} {h : H} {e : Ex} {env' : Env} {h' : H} (hs : drawX ty call n keep tk ops env h = some (e, env', h')) {Q : PostX} (hq : Q e env' h') :
    wp ty C n keep tk (.region id ⟨ops⟩ true) Q env h := by
  unfold drawX at hs
  simp only [keepF_eq] at hs
  split at hs
  · rename_i hb
    simp only [Bool.and_eq_true] at hb
    split at hs
    · rename_i e1 hp
      simp only [Option.some.injEq, Prod.mk.injEq] at hs
      obtain ⟨rfl, rfl, rfl⟩ := hs
      exact wp_draw hC hb.1 hb.2 (pureX_sound hc ops env h e1 hp hq)
    · cases hs
  · split at hs
    · rename_i r hd
      simp only [Option.some.injEq] at hs
      subst hs
      exact drawMX_sound hc hC hd hq
    split at hs
    · cases hs
    split at hs
    · rename_i e1 h1 r ha
      split at hs
      · rename_i hall
        simp only [Option.some.injEq, Prod.mk.injEq] at hs
        obtain ⟨rfl, rfl, rfl⟩ := hs
        simp only [wp, if_true]
        show evalAny ty C n tk ops _ _ ops.toArray.size (Array.replicate ops.toArray.size false) env h
        have hsz : ops.toArray.size = ops.length := by simp
        rw [hsz]
        refine anyX_sound hc _ _ _ _ _ ha fun q hqm => ?_
        rcases List.mem_cons.1 hqm with rfl | hqm
        · exact hq
        · have := List.all_eq_true.1 hall q hqm
          simp only [Bool.and_eq_true] at this
          show Q .normal (q.1.keep keep) q.2
          rw [envB_eq _ _ this.1, heapB_eq _ _ this.2]
          exact hq
      · cases hs
    · cases hs
/-- What a code comes to. -/
theorem codeX_sound (hc : CallOK C call) (hC : CMono C C) : ∀ (k : Nat) (c : Code) (env : Env) (h : H) (e : Ex) (env' : Env) (h' : H), codeX ty call n keep tk k c env h = some (e, env', h') →
    (∀ Q : PostX, Q e env' h' → wp ty C n keep tk c Q env h) ∧ ∀ b, c = .loop b → ∀ (Q : PostX) (he : H) (I : Env → H → Prop), Q e env' h' → (∀ env1 h1, wp ty C n keep tk b (thenQ (Wk he I) Q) env1 h1 → I env1 h1) → I env h
  | 0, c, env, h, e, env', h', hs => by cases hs
  | k + 1, c, env, h, e, env', h', hs => by
    unfold codeX at hs
    simp only [keepF_eq] at hs
    cases c with
    | skip =>
      simp only [Option.some.injEq, Prod.mk.injEq] at hs
      obtain ⟨rfl, rfl, rfl⟩ := hs
      exact ⟨fun Q hq => by rw [wp_skip]; exact hq, fun b hb => by cases hb⟩
    | region id ops draw =>
      refine ⟨fun Q hq => ?_, fun b hb => by cases hb⟩
      simp only [] at hs
      split at hs
      · rename_i hd
        subst hd
        exact drawX_sound (id := id) hc hC hs hq
      · rename_i hd
        have hd : draw = false := by simpa using hd
        subst hd
        split at hs
        · cases hs
        · rename_i hin
          refine wp_region_i (l := ops.toList) hin ?_
          split at hs
          · rename_i e1 h1 ho
            simp only [Option.some.injEq, Prod.mk.injEq] at hs
            obtain ⟨rfl, rfl, rfl⟩ := hs
            exact opsX_sound hc _ _ _ _ _ _ ho (fun _ => hq) (fun v hv => by cases hv)
          · rename_i hne
            refine opsX_sound hc _ _ _ _ _ _ hs (fun he => ?_) (fun v hv => ?_)
            · subst he; exact absurd hs (hne _ _)
            · subst hv; exact hq
    | seq a b =>
      refine ⟨fun Q hq => ?_, fun b hb => by cases hb⟩
      rw [wp_seq]
      simp only [] at hs
      split at hs
      · rename_i e1 h1 ha
        exact (codeX_sound hc hC k a _ _ _ _ _ ha).1 _ ((codeX_sound hc hC k b _ _ _ _ _ hs).1 Q hq)
      · rename_i hne
        refine (codeX_sound hc hC k a _ _ _ _ _ hs).1 _ ?_
        cases e <;> first | exact hq | exact absurd hs (hne _ _)
    | cond c a b =>
      refine ⟨fun Q hq => ?_, fun b hb => by cases hb⟩
      rw [wp_cond]
      simp only [] at hs
      split at hs
      · rename_i t hv
        rw [hv]
        have hq2 : wkQ h Q e env' h' := by cases e <;> first | exact Wk.same hq | exact hq
        cases t with
        | true => rw [condK_tt]; rw [if_pos rfl] at hs; exact (codeX_sound hc hC k a _ _ _ _ _ hs).1 _ hq2
        | false => rw [condK_ff]; rw [if_neg (by decide)] at hs; exact (codeX_sound hc hC k b _ _ _ _ _ hs).1 _ hq2
      · cases hs
    | block id b =>
      refine ⟨fun Q hq => ?_, fun b hb => by cases hb⟩
      rw [wp_block]
      simp only [] at hs
      split at hs
      · rename_i i e1 h1 hb
        split at hs
        · rename_i hi
          simp only [Option.some.injEq, Prod.mk.injEq] at hs
          obtain ⟨rfl, rfl, rfl⟩ := hs
          refine (codeX_sound hc hC k b _ _ _ _ _ hb).1 _ ?_
          show (if i = id then _ else _)
          rw [if_pos hi]
          exact Wk.same hq
        · rename_i hi
          simp only [Option.some.injEq, Prod.mk.injEq] at hs
          obtain ⟨rfl, rfl, rfl⟩ := hs
          refine (codeX_sound hc hC k b _ _ _ _ _ hb).1 _ ?_
          show (if i = id then _ else _)
          rw [if_neg hi]
          exact hq
      · rename_i hne
        refine (codeX_sound hc hC k b _ _ _ _ _ hs).1 _ ?_
        cases e <;> first | exact Wk.same hq | exact absurd hs (hne _ _ _) | exact hq
    | loop b =>
      have key : ∀ (Q : PostX) (he : H) (I : Env → H → Prop), Q e env' h' → (∀ env1 h1, wp ty C n keep tk b (thenQ (Wk he I) Q) env1 h1 → I env1 h1) → I env h := fun Q he I hq hI => by
        refine hI _ _ ?_
        simp only [] at hs
        split at hs
        · rename_i e1 h1 hb
          exact (codeX_sound hc hC k b _ _ _ _ _ hb).1 _ (Wk.same ((codeX_sound hc hC k (.loop b) _ _ _ _ _ hs).2 b rfl Q he I hq hI))
        · rename_i hne
          refine (codeX_sound hc hC k b _ _ _ _ _ hs).1 _ ?_
          cases e <;> first | exact hq | exact absurd hs (hne _ _)
      refine ⟨fun Q hq => ?_, fun b' hb' => by cases hb'; exact key⟩
      simp only [wp]
      exact fun I hI => Wk.same (key Q h I hq hI)
    | exit id =>
      simp only [Option.some.injEq, Prod.mk.injEq] at hs
      obtain ⟨rfl, rfl, rfl⟩ := hs
      exact ⟨fun Q hq => by rw [wp_exit]; exact hq, fun b hb => by cases hb⟩
    | ret =>
      simp only [Option.some.injEq, Prod.mk.injEq] at hs
      obtain ⟨rfl, rfl, rfl⟩ := hs
      exact ⟨fun Q hq => by rw [wp_ret]; exact hq, fun b hb => by cases hb⟩
    | _ => cases hs
end
end Go.Proofs.YtpdifmlbhkimlaaGreatDoor.Pv
