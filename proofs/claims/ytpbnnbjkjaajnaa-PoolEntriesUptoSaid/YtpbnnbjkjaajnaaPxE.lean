/- A run that reckons: operations, regions, code; what it comes to holds of the evaluator. -/
import Derived.Test.YtpbnnbjkjaajnaaPxD
import Derived.Test.YtpbnnbjkjaajnaaPxN
set_option linter.unusedVariables false
set_option linter.unusedSimpArgs false
set_option maxHeartbeats 1000000
namespace Go.Proofs.Ytpbnnbjkjaajnaa.Pv
open Go
noncomputable section
section
variable (ty : Nat → Ty) (call : FuncId → List V → H → Option (Out × H)) (n : Nat) (keep : List Nat) (mask : Nat) (tk : List Nat)

def dstX : Option Nat → Bool
  | none => true
  | some i => Nat.ble (Nat.succ i) n
/-- A test for nil of a list that has something. -/
def nilX (o : Oper) (env : EnvX) : Option V :=
  match o.op with
  | .binOp op t x y t' =>
    (match op, (ty t).k, evF ty env t x, evF ty env t' y, isC x || isC y with
    | .eql, .slice _, .sl _ (_ :: _), .nils _ _, true => some (.bool false)
    | .neq, .slice _, .sl _ (_ :: _), .nils _ _, true => some (.bool true)
    | _, _, _, _, _ => none)
  | _ => none
/-- Which object an operation changes, or makes. -/
def atX (o : Oper) (env : EnvX) (h : H) : Option Nat :=
  match o.op with
  | .store _ a _ => (match evF ty env 0 a with | .ref id _ => some id | _ => none)
  | .load _ a => if tkB tk o.dst then (match evF ty env 0 a with | .ref id _ => some id | _ => none) else none
  | .insert t m _ _ => (match evF ty env t m with | .map id => some id | _ => none)
  | .mapUpdate t m _ _ => (match evF ty env t m with | .map id => some id | _ => none)
  | .next x _ => (match evF ty env 0 x with | .ref id _ => some id | _ => none)
  | .alloc _ => some h.length
  | .box _ _ => some h.length
  | .makeMap _ _ => some h.length
  | .makeSlice _ _ _ => some h.length
  | .range _ _ => some h.length
  | .call { callee := .builtin .append, args := _, argTypes := _ } => if rwB tk o.dst then some h.length else none
  | _ => none
def forceO {α : Type} (o : Oper) (v : V) (k : V → α) : α :=
  match o.op with
  | .move _ => V.whnf v k
  | .assign _ => V.whnf v k
  | .extract _ _ => V.whnf v k
  | .nilCheck _ => V.whnf v k
  | .call { callee := .value _, args := _, argTypes := _ } => k v
  | _ => V.force v k
def settle {α : Type} (i : Option Nat) (h : H) (k : H → α) : α := match i with | some i => forceN i fun i => forceAt i h k | none => k h
inductive SX where
  | val (v : V) (env : EnvX) (h : H)
  | pan (v : V) (h : H)
def wantedX (ops : List Oper) (o : Oper) (x : EnvX) : Option Bool :=
  match o.guard with
  | none => some true
  | some (g, b) =>
    match (ops[g]?).bind (·.dst) with
    | some t => (match getF x t with | .bool c => some (c == b) | .tup [] => some false | _ => none)
    | none => none
theorem wantedX_eq (ops : List Oper) (o : Oper) (x : EnvX) : wantedX ops o x = wanted ops o x.toE := by
  unfold wantedX wanted
  simp only [getF_eq]
  rfl
def opX (o : Oper) (x : EnvX) (h : H) : Option SX :=
  if dstX n o.dst then
    (match aopX ty tk o x h with
    | .val true v e h' => forceO o v fun v => settle (atX ty tk o x h) h' fun h' => some (.val v e h')
    | .call f args => V.whnfL args fun args => (match call f args h with | some (.ret v, h') => some (.val v x h') | some (.panic v, h') => some (.pan v h') | _ => none)
    | .pan v => some (.pan v h)
    | .each _ => (match nilX ty o x with | some v => some (.val v x h) | none => none)
    | _ => none)
  else none
def opsX (ops : List Oper) : List Oper → EnvX → H → Option (Ex × EnvX × H)
  | [], x, h => some (.normal, x, h)
  | o :: os, x, h =>
    match wantedX ops o x with
    | some true => (match opX ty call n tk o x h with
      | some (.val v e h') => (match o.dst with | some d => EnvX.headF e fun t b => opsX ops os (.mk ((d, v) :: t) b) h' | none => EnvX.headF e fun t b => opsX ops os (.mk t b) h')
      | some (.pan v h') => some (.panic v, x, h')
      | none => none)
    | some false => if dstX n o.dst then (match o.dst, x with | some d, .mk t b => opsX ops os (.mk ((d, .tup []) :: t) b) h | none, x => opsX ops os x h) else none
    | none => none
/-- What writes nothing but its slot. -/
def plainX (o : Oper) : Bool :=
  match o.op with
  | .move (.tmp _) => false
  | .assign (.tmp _) => false
  | .move _ | .assign _ | .pick _ _ _ | .build _ _ | .buildSlice _ _ _ | .nilCheck _ | .unOp _ _ _ | .convert _ _ _ | .makeInterface _ _ | .fieldAddr _ _ _ | .field _ _ _ | .indexAddr _ _ _ | .index _ _ _ | .extract _ _ | .lookup _ _ _ _ | .slice _ _ _ _ (some _) => true
  | .binOp _ _ _ _ _ => true
  | .call { callee := .builtin .len, args := _, argTypes := _ } => true
  | .call { callee := .builtin .min, args := _, argTypes := _ } => true
  | .call { callee := .builtin .max, args := _, argTypes := _ } => true
  | _ => false
def bareX : V → Bool
  | .own _ _ _ => false
  | .cap _ _ => false
  | .pri _ _ _ _ => false
  | _ => true
def quietX (o : Oper) (env : Env) (h : H) : Option V :=
  match o.op with
  | .move (.tmp i) => if tkB tk o.dst && neD i o.dst then none else some (env.get i).demote
  | .assign (.tmp i) => if neD i o.dst then (if env.keys.contains i && bareX (env.get i) then some (env.get i).toOwn else none) else some (env.get i).demote
  | .load t a => if tkB tk o.dst then none else (match aopX ty tk o (.of env) h with | .val true v _ _ => some v | _ => none)
  | .slice t x lo hi none => if tkB tk o.dst then none else (match aopX ty tk o (.of env) h with | .val true v _ _ => some v | _ => none)
  | _ => if plainX o then (match aopX ty tk o (.of env) h with | .val true v _ _ => some v | _ => none) else
    (match aopX ty tk o (.of env) h with
    | .call f args => V.forceL args fun args => (match call f args h with | some (.ret v, h') => if heapB h' h then some v else none | _ => none)
    | _ => none)
def pureX (ops : List Oper) : List Oper → Env → H → Option Env
  | [], env, h => some env
  | o :: os, env, h =>
    match wanted ops o env with
    | some true => (match quietX ty call tk o env h with
      | some v => if dstX n o.dst then forceO o v fun v => (match o.dst with | some d => putF d v env fun e => pureX ops os e h | none => pureX ops os env h) else none
      | none => none)
    | some false => if dstX n o.dst then pureX ops os (putD o.dst env (.tup [])) h else none
    | none => none
/-- .. of each order that the edges let in. -/
def anyX (ops : List Oper) : Nat → Array Bool → Env → H → Option (List (Env × H))
  | 0, listed, env, h => if (Region.ready .any ops.toArray listed).isEmpty then some [(env, h)] else none
  | k + 1, listed, env, h =>
    if (Region.ready .any ops.toArray listed).isEmpty then some [(env, h)]
    else (Region.ready .any ops.toArray listed).foldr (fun i r =>
      match r, ops[i]? with
      | some l, some o =>
        (match wanted ops o env with
        | some true => (match opX ty call n tk o (.of env) h with
          | some (.val v e h') => (match anyX ops k (listed.setIfInBounds i true) (putD o.dst e.toE v) h' with | some l' => some (l' ++ l) | none => none)
          | _ => none)
        | some false => if dstX n o.dst then (match anyX ops k (listed.setIfInBounds i true) (putD o.dst env (.tup [])) h with | some l' => some (l' ++ l) | none => none) else none
        | none => none)
      | _, _ => none) (some [])
/-- The slots that appends and cuts take. -/
def isApp (o : Oper) : Bool := match o.op with | .call c => (match c.callee with | .builtin .append => true | _ => false) | _ => false
def takesX (ops : List Oper) : List Nat :=
  ops.filterMap fun o => match o.op with
    | .slice _ _ _ _ _ => takeOf tk o
    | .call _ => takeOf tk o
    | .assign (.tmp s) => if ops.any (fun a => (match a.dst with | some d => Nat.beq d s | none => false) && isApp a) then takeOf tk o else none
    | _ => none
abbrev Memo := List (Nat × FuncId × List V × V × Nat)
/-- In the text's order: the heaps, one behind each change; which operations change; the calls, with the numbers of the heaps ahead and behind. -/
def pass1 (ops : List Oper) : List Oper → Nat → Env → H → List H → List Nat → Memo → Option (List H × List Nat × Memo)
  | [], _, _, _, hs, ms, memo => some (hs, ms, memo)
  | o :: os, i, e, h, hs, ms, memo =>
    match wanted ops o e with
    | some true =>
      (match aopX ty tk o (.of e) h with
      | .call f args => V.whnfL args fun args => (match call f args h with
        | some (.ret v, h') =>
          if heapB h' h then pass1 ops os (i + 1) (putD o.dst e v) h hs ms ((ms.length, f, args, v, ms.length) :: memo)
          else pass1 ops os (i + 1) (putD o.dst e v) h' (hs ++ [h']) (ms ++ [i]) ((ms.length, f, args, v, ms.length + 1) :: memo)
        | _ => none)
      | .val true v e' h' =>
        if isM tk o && !heapB h' h then pass1 ops os (i + 1) (putD o.dst e'.toE v) h' (hs ++ [h']) (ms ++ [i]) memo
        else pass1 ops os (i + 1) (putD o.dst e'.toE v) h hs ms memo
      | _ => none)
    | some false => pass1 ops os (i + 1) (putD o.dst e (.tup [])) h hs ms memo
    | none => none
def lookM (memo : Memo) (hs : List H) (k : Nat) (f : FuncId) (args : List V) (h : H) : Option (Out × H) :=
  match memo.find? (fun q => Nat.beq q.1 k && (Nat.beq q.2.1 f && V.beqL q.2.2.1 args)) with
  | some q => some (.ret q.2.2.2.1, hs.getD q.2.2.2.2 [])
  | none => call f args h
/-- A store that moves nothing. -/
def stillX (o : Oper) (e : Env) : Bool :=
  match o.op with
  | .store _ _ (.tmp i) => e.keys.contains i && bareX (getL e i)
  | _ => true
def quietN (T : List Nat) (memo : Memo) (hs : List H) (o : Oper) (e : Env) (k : Nat) : Option V :=
  if isM tk o then (match aopX ty tk o (.of e) (hs.getD k []) with | .val true v _ h' => if stillX o e && heapB h' (hs.getD k []) then some v else none | _ => none)
  else if (takeT tk T o).isSome then (match aopX ty tk o (.of e) (hs.getD k []) with | .val true v _ _ => some v | _ => none)
  else if tkB tk o.dst then none
  else quietX ty (lookM call memo hs k) tk o e (hs.getD k [])
def idxN (ms : List Nat) (i : Nat) : Option Nat := (List.range ms.length).find? fun k => match ms[k]? with | some m => Nat.beq m i | none => false
def stepN (T : List Nat) (memo : Memo) (hs : List H) (ms : List Nat) (need : List (List Nat)) (i : Nat) (o : Oper) (e : Env) : Option V :=
  match idxN ms i with
  | some k => (match aopX ty tk o (.of e) (hs.getD k []) with
    | .val true v _ h' => if isM tk o && (stillX o e && heapB h' (hs.getD (k + 1) [])) then some v else none
    | .call f args => (match lookM call memo hs k f args (hs.getD k []) with | some (.ret v, h') => if heapB h' (hs.getD (k + 1) []) then some v else none | _ => none)
    | _ => none)
  | none => (match (List.range (ms.length + 1)).filter (allow ms need i) with
    | [] => none
    | k :: r => (match quietN ty call tk T memo hs o e k with
      | some v => if r.all (fun k => match quietN ty call tk T memo hs o e k with | some v2 => V.beq v2 v | none => false) then some v else none
      | none => none))
def pass2 (ops : List Oper) (T : List Nat) (memo : Memo) (hs : List H) (ms : List Nat) (need : List (List Nat)) : List Oper → Nat → Env → Option Env
  | [], _, e => some e
  | o :: os, i, e =>
    match wanted ops o e with
    | some true => (match stepN ty call tk T memo hs ms need i o e with
      | some v => if dstX n o.dst then forceO o v fun v => (match o.dst with | some d => putF d v e fun e => pass2 ops T memo hs ms need os (i + 1) e | none => pass2 ops T memo hs ms need os (i + 1) e) else none
      | none => none)
    | some false => if dstX n o.dst && (idxN ms i).isNone then pass2 ops T memo hs ms need os (i + 1) (putD o.dst e (.tup [])) else none
    | none => none
/-- What must come ahead of what. -/
def needOf (ops : List Oper) : List (List Nat) :=
  ops.foldl (fun acc o => acc ++ [(o.after.toList.foldl (fun l a => if Region.binds .any a then (a.on :: (acc[a.on]?).getD []).foldl (fun l x => if l.contains x then l else x :: l) l else l) [])]) []
def lastSt (ops : List Oper) : Option (Nat × Nat × Nat) :=
  match ops[ops.length - 1]? with
  | some o => (match o.op, o.guard, o.dst with
    | .store t (.tmp a) (.tmp x), none, none => some (t, a, x)
    | _, _, _ => none)
  | none => none
def condN (T ks : List Nat) (env : Env) (l : List Oper) : Bool := ordB [] l && (keptB l ks env.keys && takeB tk T l ks)
def condN2 (ms : List Nat) (need : List (List Nat)) (l : List Oper) : Bool := needOK l need && (chainOK ms need && ms.all (fun m => decide (m < l.length)))
def needN (ms : List Nat) (l : List Oper) : List (List Nat) := if ms.isEmpty then [] else needOf l
def drawMX (ops : List Oper) (env : Env) (h : H) : Option (Ex × Env × H) :=
  match lastSt ops with
  | some (t, a, x) =>
    if !(takesX tk ops).contains a && !(takesX tk ops).contains x && !keep.contains x && !(a == x) && decide (ops.length = (ops.length - 1) + 1) &&
        condN tk (takesX tk ops) keep env (ops.take (ops.length - 1)) && coverB ops (ops.length - 1) && backB ops then
      (match pass1 ty call tk (ops.take (ops.length - 1)) (ops.take (ops.length - 1)) 0 env h [h] [] [] with
      | some (hs, ms, memo) => if condN2 ms (needN ms (ops.take (ops.length - 1))) (ops.take (ops.length - 1)) then
        (match pass2 ty call n tk (ops.take (ops.length - 1)) (takesX tk ops) memo hs ms (needN ms (ops.take (ops.length - 1))) (ops.take (ops.length - 1)) 0 env with
        | some g => (match storeX ty t (getL g a).demote (getL g x) (.of []) (hs.getD ms.length []) with
          | .val true _ _ h' => keepF mask g fun e => (match (getL g a).demote with | .ref id _ => forceN id fun id => forceAt id h' fun h' => some (.normal, e, h') | _ => none)
          | _ => none)
        | none => none) else none
      | none => none)
    else none
  | none =>
    if condN tk (takesX tk ops) keep env ops then
      (match pass1 ty call tk ops ops 0 env h [h] [] [] with
      | some (hs, ms, memo) => if condN2 ms (needN ms ops) ops then
        (match pass2 ty call n tk ops (takesX tk ops) memo hs ms (needN ms ops) ops 0 env with
        | some g => keepF mask g fun e => some (.normal, e, hs.getD ms.length [])
        | none => none) else none
      | none => none)
    else none
/-- A load that does not move, a move: nothing that may change the heap. -/
def isLd (o : Oper) : Bool := match o.op with | .load _ _ => !tkB tk o.dst | .move _ => true | .assign _ => true | .slice _ _ _ _ none => !tkB tk o.dst | _ => false
/-- A region in which an append is told as an object: what is ahead of it, and then each order of the rest. -/
def hasRow (ops : List Oper) : Bool := ops.any fun o => rwB tk o.dst
def splitAtX (ops : List Oper) : Option Nat := (List.range ops.length).find? fun p => Nat.blt 0 p && (Nat.ble ops.length (p + 8) && (splitB ops p && headB ops p))
def preX (ops : List Oper) (env : Env) (h : H) : Option (Env × H) :=
  match drawMX ty call n keep mask tk ops env h with
  | some (.normal, e, h1) => some (e, h1)
  | _ => if 8 < ops.length then none else (match anyX ty call n tk ops ops.length (Array.replicate ops.length false) env h with
    | some ((e, h') :: r) => if r.all (fun q => envB (q.1.keep keep) (e.keep keep) && heapB q.2 h') then keepF mask e fun e => some (e, h') else none
    | _ => none)
def drawSX (ops : List Oper) (env : Env) (h : H) : Option (Ex × Env × H) :=
  match splitAtX ops with
  | some p => (match preX ty call n keep mask tk (ops.take p) env h with
    | some (e, h1) => (match anyX ty call n tk ops (ops.length - p) ((List.replicate p true ++ List.replicate (ops.length - p) false).toArray) e h1 with
      | some ((e2, h2) :: r) => if r.all (fun q => envB (q.1.keep keep) (e2.keep keep) && heapB q.2 h2) then keepF mask e2 fun e2 => some (.normal, e2, h2) else none
      | _ => none)
    | _ => none)
  | none => none
def drawX (ops : List Oper) (env : Env) (h : H) : Option (Ex × Env × H) :=
  if ordB tk ops && keptB ops keep env.keys && ops.all (fun o => plainX o || isLd tk o) then
    (match pureX ty call n tk ops ops env h with
    | some e => keepF mask e fun e => some (.normal, e, h)
    | none => none)
  else if hasRow tk ops then drawSX ty call n keep mask tk ops env h
  else match drawMX ty call n keep mask tk ops env h with
  | some r => some r
  | none =>
    if 8 < ops.length then drawSX ty call n keep mask tk ops env h else
    match anyX ty call n tk ops ops.length (Array.replicate ops.length false) env h with
    | some ((e, h') :: r) => if r.all (fun q => envB (q.1.keep keep) (e.keep keep) && heapB q.2 h') then some (.normal, e.keep keep, h') else none
    | _ => none
def codeX : Nat → Code → Env → H → Option (Ex × Env × H)
  | 0, _, _, _ => none
  | k + 1, c, env, h =>
    match c with
    | .skip => some (.normal, env, h)
    | .region _ ops draw =>
      if draw then drawX ty call n keep mask tk ops.toList env h
      else (match inPl ops.toList with
        | some _ => none
        | none => (match opsX ty call n tk ops.toList ops.toList (.mk [] env) h with
          | some (.normal, .mk t b, h') => finF mask t b fun e => some (.normal, e, h')
          | some (e, x, h') => some (e, x.toE, h')
          | none => none))
    | .seq a b => (match codeX k a env h with | some (.normal, e, h') => codeX k b e h' | r => r)
    | .cond c a b => (match evF ty (.mk [] env) 0 c with | .bool t => codeX k (if t = true then a else b) env h | _ => none)
    | .block id b => (match codeX k b env h with | some (.exit i, e, h') => if i = id then some (.normal, e, h') else some (.exit i, e, h') | r => r)
    | .loop b => (match codeX k b env h with | some (.normal, e, h') => codeX k (.loop b) e h' | r => r)
    | .exit id => some (.exit id, env, h)
    | .ret => some (.ret, env, h)
    | _ => none
end
section
variable {ty : Nat → Ty} {call : FuncId → List V → H → Option (Out × H)} {C : CallP} {n : Nat} {keep tk : List Nat}
theorem dstX_ok {d : Option Nat} (h : dstX n d = true) : dstOk n d := by
  cases d with
  | none => trivial
  | some i =>
    have : i < n := Nat.le_of_ble_eq_true h
    exact this
theorem forceO_eq {α : Type} (o : Oper) (v : V) (k : V → α) : forceO o v k = k v := by
  unfold forceO
  split <;> first | exact V.whnf_eq .. | rfl | exact V.force_eq ..
theorem settle_eq {α : Type} (i : Option Nat) (h : H) (k : H → α) : settle i h k = k h := by cases i <;> simp [settle, forceN_eq, forceAt_eq]
theorem aop_of {o : Oper} {env : EnvX} {h : H} {r : ResX} (he : aopX ty tk o env h = r) : aop ty tk o env.toE h = r.up := by rw [← aopX_up, he]
theorem nilX_each {o : Oper} {env : EnvX} {h : H} {v : V} (hn : nilX ty o env = some v) {f : Value → Res} (ha : aop ty tk o env.toE h = .each f) : ∀ u, f u = .val True v env.toE h := by
  unfold nilX at hn
  split at hn
  case h_2 => cases hn
  rename_i op t x y t' ho
  simp only [evF_eq] at hn
  unfold aop at ha
  rw [ho] at ha
  simp only [] at ha
  split at hn
  · rename_i h1 h2 h3 h4
    simp only [Option.some.injEq] at hn
    subst hn
    unfold sliceNil at ha
    rw [h1, h2, h3] at ha
    simp only [h4, if_true, Option.getD_some, Res.each.injEq] at ha
    subst ha
    intro u; rfl
  · rename_i h1 h2 h3 h4
    simp only [Option.some.injEq] at hn
    subst hn
    unfold sliceNil at ha
    rw [h1, h2, h3] at ha
    simp only [h4, if_true, Option.getD_some, Res.each.injEq] at ha
    subst ha
    intro u; rfl
  · cases hn
def CallOK (C : CallP) (call : FuncId → List V → H → Option (Out × H)) : Prop := ∀ f args h r h', call f args h = some (r, h') → ∀ Q : Out → H → Prop, Q r h' → C f args h Q
theorem opX_sound (hc : CallOK C call) {o : Oper} {env : EnvX} {h : H} {s : SX} (hs : opX ty call n tk o env h = some s) {Kc : Env → H → Prop} {X : V → Env → H → Prop}
    (hk : match s with | .val v e h' => Kc (putD o.dst e.toE v) h' | .pan v h' => X v env.toE h') : (aop ty tk o env.toE h).upon C n o env.toE h Kc X := by
  unfold opX at hs
  simp only [forceO_eq, V.whnfL_eq, settle_eq] at hs
  split at hs
  case isFalse => cases hs
  rename_i hd
  have hd := dstX_ok hd
  split at hs
  · rename_i v e h' ha
    simp only [Option.some.injEq] at hs
    subst hs
    rw [aop_of ha]
    exact ⟨rfl, hd, hk⟩
  · rename_i f args ha
    rw [aop_of ha]
    split at hs
    · rename_i v h' hcl
      simp only [Option.some.injEq] at hs
      subst hs
      exact ⟨hd, hc _ _ _ _ _ hcl _ hk⟩
    · rename_i v h' hcl
      simp only [Option.some.injEq] at hs
      subst hs
      exact ⟨hd, hc _ _ _ _ _ hcl _ hk⟩
    · cases hs
  · rename_i v ha
    simp only [Option.some.injEq] at hs
    subst hs
    rw [aop_of ha]
    exact hk
  · rename_i f ha
    split at hs
    · rename_i v hn
      simp only [Option.some.injEq] at hs
      subst hs
      have ha2 := aop_of ha
      have hf := nilX_each hn ha2
      rw [ha2]
      intro u
      have h9 : ResX.up (f u) = .val True v env.toE h := hf u
      show (ResX.up (f u)).upon C n o env.toE h Kc X
      rw [h9]
      exact ⟨trivial, hd, hk⟩
    · cases hs
  · cases hs
theorem opsX_sound (hc : CallOK C call) {ops : List Oper} {Kc : Env → H → Prop} {X : V → Env → H → Prop} : ∀ (l : List Oper) (env : EnvX) (h : H) (e : Ex) (env' : EnvX) (h' : H), opsX ty call n tk ops l env h = some (e, env', h') →
    (e = .normal → Kc env'.toE h') → (∀ v, e = .panic v → X v env'.toE h') → evalOps ty C n tk ops l Kc X env.toE h
  | [], env, h, e, env', h', hs, h1, h2 => by
    simp only [opsX, Option.some.injEq, Prod.mk.injEq] at hs
    obtain ⟨rfl, rfl, rfl⟩ := hs
    exact h1 rfl
  | o :: os, env, h, e, env', h', hs, h1, h2 => by
    unfold opsX at hs
    show runOp ty C n tk (wanted ops o env.toE) o env.toE h (evalOps ty C n tk ops os Kc X) X
    rw [wantedX_eq] at hs
    split at hs
    · rename_i hw
      rw [hw]
      split at hs
      · rename_i v e1 h1' ho
        obtain ⟨t1, b1⟩ := e1
        have hs2 : ∃ x : EnvX, x.toE = putD o.dst (EnvX.toE (.mk t1 b1)) v ∧ opsX ty call n tk ops os x h1' = some (e, env', h') := by
          cases hd : o.dst with
          | none =>
            rw [hd] at hs
            simp only [EnvX.headF_eq] at hs
            exact ⟨.mk t1 b1, rfl, hs⟩
          | some d =>
            rw [hd] at hs
            simp only [EnvX.headF_eq] at hs
            exact ⟨.mk ((d, v) :: t1) b1, rfl, hs⟩
        obtain ⟨x, hx, hs2⟩ := hs2
        have := opsX_sound hc os _ _ _ _ _ hs2 h1 h2
        rw [hx] at this
        exact opX_sound hc ho this
      · rename_i v h1' ho
        simp only [Option.some.injEq, Prod.mk.injEq] at hs
        obtain ⟨rfl, rfl, rfl⟩ := hs
        exact opX_sound hc ho (h2 v rfl)
      · cases hs
    · rename_i hw
      rw [hw]
      split at hs
      · rename_i hd
        refine ⟨dstX_ok hd, ?_⟩
        obtain ⟨t1, b1⟩ := env
        cases hdd : o.dst with
        | none =>
          rw [hdd] at hs
          exact opsX_sound hc os _ _ _ _ _ hs h1 h2
        | some d =>
          rw [hdd] at hs
          exact opsX_sound hc os (.mk ((d, .tup []) :: t1) b1) _ _ _ _ hs h1 h2
      · cases hs
    · cases hs
def EnvX.base : EnvX → Env
  | .mk _ b => b
theorem EnvX.put_base (x : EnvX) (i : Nat) (v : V) : (x.put i v).base = x.base := by cases x; rfl
theorem R1X.res_base {r : R1X} {x : EnvX} {h : H} {p : Bool} {v : V} {e : EnvX} {h' : H} (ha : r.res x h = .val p v e h') : e.base = x.base := by
  cases r with
  | ok q u => simp only [R1X.res, ResX.val.injEq] at ha; rw [← ha.2.2.1]
  | bad => cases ha
theorem loadX_base {t : Nat} {a b : Bool} {u : V} {x : EnvX} {h : H} {p : Bool} {v : V} {e : EnvX} {h' : H} (ha : loadX ty t a b u x h = .val p v e h') : e.base = x.base := by
  unfold loadX loadNX at ha
  repeat' split at ha
  all_goals first
    | (cases ha; done)
    | (simp only [ResX.val.injEq] at ha; rw [← ha.2.2.1])
theorem storeX_base {t : Nat} {a b : V} {x : EnvX} {h : H} {p : Bool} {v : V} {e : EnvX} {h' : H} (ha : storeX ty t a b x h = .val p v e h') : e.base = x.base := by
  unfold storeX at ha
  repeat' split at ha
  all_goals first
    | (cases ha; done)
    | (simp only [ResX.val.injEq] at ha; rw [← ha.2.2.1])
theorem updateX_base {t : Nat} {a b c : V} {x : EnvX} {h : H} {p : Bool} {v : V} {e : EnvX} {h' : H} (ha : updateX ty t a b c x h = .val p v e h') : e.base = x.base := by
  unfold updateX at ha
  repeat' split at ha
  all_goals first
    | (cases ha; done)
    | (simp only [ResX.val.injEq] at ha; rw [← ha.2.2.1])
theorem sliceOpX_base {m : Bool} {t : Nat} {a : Operand} {lo hi : Option Operand} {x : EnvX} {h : H} {p : Bool} {v : V} {e : EnvX} {h' : H} (ha : sliceOpX ty m t a lo hi x h = .val p v e h') : e.base = x.base := by
  unfold sliceOpX cutX at ha
  repeat' split at ha
  all_goals first
    | (cases ha; done)
    | exact R1X.res_base ha
    | (simp only [ResX.val.injEq] at ha; rw [← ha.2.2.1, EnvX.put_base])
theorem iterX_base {t : Nat} {u : V} {x : EnvX} {h : H} {p : Bool} {v : V} {e : EnvX} {h' : H} : (rangeOpX ty t u x h = .val p v e h' → e.base = x.base) ∧ (nextOpX u x h = .val p v e h' → e.base = x.base) ∧ (nextMX u x h = .val p v e h' → e.base = x.base) ∧ (entryOpX u x h = .val p v e h' → e.base = x.base) := by
  refine ⟨fun ha => ?_, fun ha => ?_, fun ha => ?_, fun ha => ?_⟩
  · unfold rangeOpX at ha
    repeat' split at ha
    all_goals first
      | (cases ha; done)
      | (simp only [ResX.val.injEq] at ha; rw [← ha.2.2.1])
  · unfold nextOpX at ha
    repeat' split at ha
    all_goals first
      | (cases ha; done)
      | (simp only [ResX.val.injEq] at ha; rw [← ha.2.2.1])
  · unfold nextMX at ha
    repeat' split at ha
    all_goals first
      | (cases ha; done)
      | (simp only [ResX.val.injEq] at ha; rw [← ha.2.2.1])
  · unfold entryOpX at ha
    repeat' split at ha
    all_goals first
      | (cases ha; done)
      | (simp only [ResX.val.injEq] at ha; rw [← ha.2.2.1])
theorem builtinX_base {b : Builtin} {ts : List Nat} {xs : List Operand} {x : EnvX} {h : H} {p : Bool} {v : V} {e : EnvX} {h' : H} (ha : builtinX ty b ts xs x h = .val p v e h') : e.base = x.base := by
  unfold builtinX at ha
  repeat' split at ha
  all_goals first
    | (cases ha; done)
    | exact R1X.res_base ha
    | (have := R1X.res_base ha; rw [this, EnvX.put_base])
theorem rowAppX_base {b : Builtin} {ts : List Nat} {xs : List Operand} {x : EnvX} {h : H} {p : Bool} {v : V} {e : EnvX} {h' : H} (ha : rowAppX ty b ts xs x h = .val p v e h') : e.base = x.base := by
  unfold rowAppX at ha
  repeat' split at ha
  all_goals first
    | (cases ha; done)
    | (simp only [ResX.val.injEq] at ha; rw [← ha.2.2.1])
theorem aopX_base {o : Oper} {x : EnvX} {h : H} {p : Bool} {v : V} {e : EnvX} {h' : H} (ha : aopX ty tk o x h = .val p v e h') : e.base = x.base := by
  unfold aopX at ha
  split at ha
  case h_14 =>
    unfold sliceNilX at ha
    repeat' split at ha
    all_goals first
      | exact R1X.res_base ha
      | (simp only [Option.getD_some, reduceCtorEq] at ha)
  all_goals (repeat' split at ha)
  all_goals first
    | (cases ha; done)
    | exact R1X.res_base ha
    | exact loadX_base ha
    | exact storeX_base ha
    | (have := storeX_base ha; rw [this, EnvX.put_base])
    | exact updateX_base ha
    | exact sliceOpX_base ha
    | exact iterX_base.1 ha
    | exact (iterX_base (ty := ty) (t := 0)).2.1 ha
    | exact (iterX_base (ty := ty) (t := 0)).2.2.1 ha
    | exact (iterX_base (ty := ty) (t := 0)).2.2.2 ha
    | exact builtinX_base ha
    | exact rowAppX_base ha
    | (simp only [ResX.val.injEq] at ha; rw [← ha.2.2.1]; done)
    | (simp only [ResX.val.injEq] at ha; rw [← ha.2.2.1, EnvX.put_base])
theorem opX_base {o : Oper} {x : EnvX} {h : H} {v : V} {e : EnvX} {h' : H} (hs : opX ty call n tk o x h = some (.val v e h')) : e.base = x.base := by
  unfold opX at hs
  simp only [forceO_eq, V.whnfL_eq, settle_eq] at hs
  repeat' split at hs
  all_goals first
    | (cases hs; done)
    | (rename_i ha; simp only [Option.some.injEq, SX.val.injEq] at hs; obtain ⟨rfl, rfl, rfl⟩ := hs; exact aopX_base ha)
    | (simp only [Option.some.injEq, SX.val.injEq] at hs; rw [← hs.2.1])
theorem opsX_base {ops : List Oper} : ∀ (l : List Oper) (env : EnvX) (h : H) (e : Ex) (env' : EnvX) (h' : H), opsX ty call n tk ops l env h = some (e, env', h') → env'.base = env.base
  | [], env, h, e, env', h', hs => by
    simp only [opsX, Option.some.injEq, Prod.mk.injEq] at hs
    rw [hs.2.1]
  | o :: os, env, h, e, env', h', hs => by
    unfold opsX at hs
    split at hs
    · split at hs
      · rename_i v e1 h1' ho
        have h0 := opX_base ho
        obtain ⟨t1, b1⟩ := e1
        cases hd : o.dst with
        | none => rw [hd] at hs; simp only [EnvX.headF_eq] at hs; exact (opsX_base os _ _ _ _ _ hs).trans h0
        | some d => rw [hd] at hs; simp only [EnvX.headF_eq] at hs; exact (opsX_base os _ _ _ _ _ hs).trans h0
      · simp only [Option.some.injEq, Prod.mk.injEq] at hs
        rw [hs.2.1]
      · cases hs
    · split at hs
      · obtain ⟨t1, b1⟩ := env
        cases hd : o.dst with
        | none => rw [hd] at hs; exact opsX_base os _ _ _ _ _ hs
        | some d => rw [hd] at hs; exact opsX_base os (.mk ((d, .tup []) :: t1) b1) _ _ _ _ hs
      · cases hs
    · cases hs
theorem opsX_ends {ops : List Oper} : ∀ (l : List Oper) (env : EnvX) (h : H) (e : Ex) (env' : EnvX) (h' : H), opsX ty call n tk ops l env h = some (e, env', h') → e = .normal ∨ ∃ v, e = .panic v
  | [], env, h, e, env', h', hs => by
    simp only [opsX, Option.some.injEq, Prod.mk.injEq] at hs
    exact .inl hs.1.symm
  | o :: os, env, h, e, env', h', hs => by
    unfold opsX at hs
    split at hs
    · split at hs
      · rename_i v e1 h1' ho
        obtain ⟨t1, b1⟩ := e1
        cases hd : o.dst with
        | none => rw [hd] at hs; simp only [EnvX.headF_eq] at hs; exact opsX_ends os _ _ _ _ _ hs
        | some d => rw [hd] at hs; simp only [EnvX.headF_eq] at hs; exact opsX_ends os _ _ _ _ _ hs
      · simp only [Option.some.injEq, Prod.mk.injEq] at hs
        exact .inr ⟨_, hs.1.symm⟩
      · cases hs
    · split at hs
      · obtain ⟨t1, b1⟩ := env
        cases hd : o.dst with
        | none => rw [hd] at hs; exact opsX_ends os _ _ _ _ _ hs
        | some d => rw [hd] at hs; exact opsX_ends os (.mk ((d, .tup []) :: t1) b1) _ _ _ _ hs
      · cases hs
    · cases hs
theorem plainX_same {o : Oper} (hp : plainX o = true) {env : Env} {h : H} {p : Prop} {v : V} {e' : Env} {h' : H} (ha : aop ty tk o env h = .val p v e' h') : e' = env ∧ h' = h := by
  have hres : ∀ {r : R1}, r.res env h = .val p v e' h' → e' = env ∧ h' = h := fun {r} hr => by
    cases r with
    | ok q u => simp only [R1.res, Res.val.injEq] at hr; exact ⟨hr.2.2.1.symm, hr.2.2.2.symm⟩
    | bad => cases hr
  unfold plainX at hp
  unfold aop at ha
  generalize o.op = q at hp ha
  cases q <;> first | (cases hp; done) | skip
  case move x => cases x <;> first | (cases hp; done) | (simp only [Res.val.injEq] at ha; exact ⟨ha.2.2.1.symm, ha.2.2.2.symm⟩)
  case assign x => cases x <;> first | (cases hp; done) | (simp only [Res.val.injEq] at ha; exact ⟨ha.2.2.1.symm, ha.2.2.2.symm⟩)
  case slice t x lo hi m =>
    cases m with
    | none => cases hp
    | some m => exact hres ha
  case binOp op t x y t' =>
    obtain ⟨_, ha⟩ := sliceNil_res ty ha (by simp)
    exact hres ha
  case call c =>
    obtain ⟨cal, args, ts⟩ := c
    cases cal <;> first | (cases hp; done) | skip
    rename_i b
    cases b <;> first | (cases hp; done) | skip
    all_goals
      replace ha : (if rwB tk o.dst = true then rowApp ty _ ts.toList args.toList env h else builtin ty _ ts.toList args.toList env h) = _ := ha
      split at ha
      · simp [rowApp] at ha
      unfold builtin at ha
      repeat' split at ha
    all_goals first
      | exact hres ha
      | (cases ha; done)
      | (simp_all; done)
  all_goals first
    | exact hres ha
    | (simp only [] at ha; repeat' split at ha)
  all_goals first
    | (cases ha; done)
    | (simp only [Res.val.injEq] at ha; exact ⟨ha.2.2.1.symm, ha.2.2.2.symm⟩)
theorem aopX_val {o : Oper} {env : Env} {h : H} {v : V} {e : EnvX} {h' : H} (hx : aopX ty tk o (.of env) h = .val true v e h') : aop ty tk o env h = .val (true = true) v e.toE h' := aop_of hx
theorem load_same {t : Nat} {ln : Bool} {a : V} {env : Env} {h : H} {p : Prop} {v : V} {e' : Env} {h' : H} (ha : load ty t false ln a env h = .val p v e' h') : e' = env ∧ h' = h := by
  unfold load at ha
  split at ha
  · simp only [Res.val.injEq] at ha; exact ⟨ha.2.2.1.symm, ha.2.2.2.symm⟩
  · split at ha
    · split at ha
      · simp only [Res.val.injEq] at ha; exact ⟨ha.2.2.1.symm, ha.2.2.2.symm⟩
      · split at ha
        · rename_i hf; cases hf
        · split at ha
          · simp only [Res.val.injEq] at ha; exact ⟨ha.2.2.1.symm, ha.2.2.2.symm⟩
          · unfold loadN at ha
            split at ha
            · cases ha
            · simp only [Res.val.injEq] at ha; exact ⟨ha.2.2.1.symm, ha.2.2.2.symm⟩
    · cases ha
  · cases ha
theorem bareX_demote {v : V} (h : bareX v = true) : v.demote = v := by cases v <;> first | rfl | (cases h)
theorem put_get {i : Nat} : ∀ {env : Env}, i ∈ env.keys → env.put i (env.get i) = env
  | [], h => by simp [Env.keys] at h
  | (j, u) :: r, h => by
    by_cases e : i = j
    · subst e; simp [Env.put, Env.get]
    · have h2 : i ∈ Env.keys r := by
        simp only [Env.keys, List.map_cons, List.mem_cons] at h ⊢
        exact h.resolve_left e
      simp only [Env.put, Env.get, if_neg e]
      rw [put_get h2]
/-- What a quiet operation yields. -/
theorem quietX_sound {o : Oper} {env : Env} {h : H} {v : V} (hc : ∀ f args r h', call f args h = some (r, h') → ∀ Q : Out → H → Prop, Q r h' → C f args h Q) (hs : quietX ty call tk o env h = some v) :
    (∃ p, aop ty tk o env h = .val p v env h ∧ p) ∨ ∃ f args, aop ty tk o env h = .call f args ∧ ∀ Q : Out → H → Prop, Q (.ret v) h → C f args h Q := by
  unfold quietX at hs
  simp only [V.forceL_eq] at hs
  split at hs
  · rename_i i ho
    split at hs
    · cases hs
    · rename_i hb
      simp only [Option.some.injEq] at hs
      subst hs
      refine .inl ⟨True, ?_, trivial⟩
      unfold aop
      rw [ho]
      simp only []
      rw [if_neg hb]
  · rename_i i ho
    split at hs
    · rename_i hb
      split at hs
      · rename_i hk
        simp only [Option.some.injEq] at hs
        subst hs
        simp only [Bool.and_eq_true] at hk
        refine .inl ⟨True, ?_, trivial⟩
        unfold aop
        rw [ho]
        simp only []
        rw [if_pos hb, bareX_demote hk.2, put_get (by simpa using hk.1)]
      · cases hs
    · rename_i hb
      simp only [Option.some.injEq] at hs
      subst hs
      refine .inl ⟨True, ?_, trivial⟩
      unfold aop
      rw [ho]
      simp only []
      rw [if_neg hb]
  · rename_i t a ho
    split at hs
    · cases hs
    · rename_i hb
      split at hs
      · rename_i v' e' h' hx
        simp only [Option.some.injEq] at hs
        subst hs
        have ha := aopX_val hx
        have ha2 := ha
        unfold aop at ha2
        rw [ho] at ha2
        simp only [] at ha2
        rw [show tkB tk o.dst = false from by simpa using hb] at ha2
        obtain ⟨rfl, rfl⟩ := load_same ha2
        exact .inl ⟨_, ha, rfl⟩
      · cases hs
  · rename_i t x lo hi ho
    split at hs
    · cases hs
    · rename_i hb
      split at hs
      · rename_i v' e' h' hx
        simp only [Option.some.injEq] at hs
        subst hs
        have ha := aopX_val hx
        have ha2 := ha
        unfold aop at ha2
        rw [ho] at ha2
        simp only [] at ha2
        rw [show tkB tk o.dst = false from by simpa using hb, sliceOp_ff] at ha2
        have : e'.toE = env ∧ h' = h := by
          generalize slice ty t _ _ _ = r at ha2
          cases r with
          | ok q u => simp only [R1.res, Res.val.injEq] at ha2; exact ⟨ha2.2.2.1.symm, ha2.2.2.2.symm⟩
          | bad => cases ha2
        obtain ⟨rfl, rfl⟩ := this
        exact .inl ⟨_, ha, rfl⟩
      · cases hs
  · split at hs
    · rename_i hp
      split at hs
      · rename_i v' e' h' hx
        simp only [Option.some.injEq] at hs
        subst hs
        have ha := aopX_val hx
        obtain ⟨rfl, rfl⟩ := plainX_same hp ha
        exact .inl ⟨_, ha, rfl⟩
      · cases hs
    · split at hs
      · rename_i f args hx
        split at hs
        · rename_i v' h' hcl
          split at hs
          · rename_i hb
            simp only [Option.some.injEq] at hs
            subst hs
            have := heapB_eq _ _ hb
            subst this
            exact .inr ⟨f, args, aop_of hx, hc _ _ _ _ hcl⟩
          · cases hs
        · cases hs
      · cases hs
theorem pureX_sound (hc : CallOK C call) {ops : List Oper} {K : Env → Prop} : ∀ (l : List Oper) (env : Env) (h : H) (e : Env), pureX ty call n tk ops l env h = some e → K e → evalPure ty C n tk ops h l K env
  | [], env, h, e, hs, hk => by
    simp only [pureX, Option.some.injEq] at hs
    subst hs
    exact hk
  | o :: os, env, h, e, hs, hk => by
    unfold pureX at hs
    simp only [forceO_eq] at hs
    rw [evalPure_cons]
    unfold pureK
    split at hs
    · rename_i hw
      rw [hw]
      split at hs
      · rename_i v hq
        split at hs
        · rename_i hd
          have hs2 : pureX ty call n tk ops os (putD o.dst env v) h = some e := by
            revert hs
            unfold putD
            cases o.dst <;> simp only [putF_eq] <;> exact fun h => h
          have ih := pureX_sound hc os _ h e hs2 hk
          rcases quietX_sound (fun f a r h' => hc f a _ r h') hq with ⟨p, ha, hp⟩ | ⟨f, args, ha, hcl⟩
          · simp only [ha]
            exact ⟨hp, trivial, trivial, dstX_ok hd, ih⟩
          · simp only [ha]
            exact ⟨v, hcl, dstX_ok hd, ih⟩
        · cases hs
      · cases hs
    · rename_i hw
      rw [hw]
      split at hs
      · rename_i hd
        exact ⟨dstX_ok hd, pureX_sound hc os _ h e hs hk⟩
      · cases hs
    · cases hs
theorem foldr_each {α β : Type} {F : β → Option α → Option α} {a0 : α} {P : α → Prop} {R : β → Prop} (hF : ∀ i r l, F i r = some l → P l → ∃ l0, r = some l0 ∧ P l0 ∧ R i) : ∀ (rd : List β) (l : α), List.foldr F (some a0) rd = some l → P l → ∀ i ∈ rd, R i
  | [], l, _, _, i, hi => by cases hi
  | j :: rd, l, hs, hp, i, hi => by
    rw [List.foldr_cons] at hs
    obtain ⟨l0, h1, h2, h3⟩ := hF _ _ _ hs hp
    rcases List.mem_cons.1 hi with rfl | hi
    · exact h3
    · exact foldr_each hF rd l0 h1 h2 i hi
theorem anyX_sound (hc : CallOK C call) {ops : List Oper} {Kc : Env → H → Prop} {X : V → Env → H → Prop} : ∀ (k : Nat) (listed : Array Bool) (env : Env) (h : H) (l : List (Env × H)), anyX ty call n tk ops k listed env h = some l →
    (∀ q ∈ l, Kc q.1 q.2) → evalAny ty C n tk ops Kc X k listed env h
  | 0, listed, env, h, l, hs, hk => by
    unfold anyX at hs
    split at hs
    · rename_i he
      simp only [Option.some.injEq] at hs
      subst hs
      exact ⟨List.isEmpty_iff.1 he, hk (env, h) (by simp)⟩
    · cases hs
  | k + 1, listed, env, h, l, hs, hk => by
    unfold anyX at hs
    split at hs
    · rename_i he
      simp only [Option.some.injEq] at hs
      subst hs
      refine ⟨fun _ => hk (env, h) (by simp), fun i hi => ?_⟩
      rw [List.isEmpty_iff.1 he] at hi
      cases hi
    · rename_i he
      refine ⟨fun h0 => absurd (List.isEmpty_iff.2 h0) he, ?_⟩
      refine foldr_each (P := fun l => ∀ q ∈ l, Kc q.1 q.2) (fun i r l hF hk => ?_) _ l hs hk
      split at hF
      · rename_i l0 o ho
        have step : ∀ (f : Option (List (Env × H))), (match f with | some l' => some (l' ++ l0) | none => none) = some l → ∃ l', f = some l' ∧ (∀ q ∈ l', Kc q.1 q.2) ∧ ∀ q ∈ l0, Kc q.1 q.2 := fun f hf => by
          cases f with
          | none => cases hf
          | some l' =>
            simp only [Option.some.injEq] at hf
            subst hf
            exact ⟨l', rfl, fun q hq => hk q (List.mem_append_left _ hq), fun q hq => hk q (List.mem_append_right _ hq)⟩
        split at hF
        · rename_i hw
          split at hF
          · rename_i v e h1 hop
            obtain ⟨l', h2, h3, h4⟩ := step _ hF
            refine ⟨l0, rfl, h4, o, ho, ?_⟩
            rw [hw]
            exact opX_sound hc hop (anyX_sound hc k _ _ _ _ h2 h3)
          · cases hF
        · rename_i hw
          split at hF
          · rename_i hd
            obtain ⟨l', h2, h3, h4⟩ := step _ hF
            refine ⟨l0, rfl, h4, o, ho, ?_⟩
            rw [hw]
            exact ⟨dstX_ok hd, anyX_sound hc k _ _ _ _ h2 h3⟩
          · cases hF
        · cases hF
      · cases hF
theorem call_heap {o : Oper} {env : Env} {h : H} {f : FuncId} {args : List V} (ha : aop ty tk o env h = .call f args) (h1 : H) : aop ty tk o env h1 = .call f args := by
  obtain ⟨dst, op, type, pos, after, guard⟩ := o
  have hop : ∃ fo as ts, op = .call { callee := .value fo, args := as, argTypes := ts } := by
    unfold aop at ha
    split at ha
    case h_29 fo as ts ho => exact ⟨fo, as, ts, ho⟩
    case h_14 => exact (R1.res_call (sliceNil_res ty ha (by simp)).2).elim
    all_goals (exfalso; repeat' split at ha)
    all_goals first
      | (cases ha; done)
      | exact R1.res_call ha
      | exact load_call ha
      | exact store_call ha
      | exact builtin_call ha
      | exact rowApp_call _ ha
      | exact rangeOp_call _ ha
      | exact nextOp_call ha
      | exact nextM_call ha
      | exact entryOp_call ha
      | exact update_call _ ha
      | exact sliceOp_call _ ha
  obtain ⟨fo, as, ts, rfl⟩ := hop
  exact ha
theorem val_call {o : Oper} {env : Env} {h h1 : H} {p : Prop} {v : V} {e : Env} {h' : H} {f : FuncId} {args : List V} (ha : aop ty tk o env h = .val p v e h') : ¬ aop ty tk o env h1 = .call f args := fun hc => by
  have := call_heap hc h
  rw [ha] at this; cases this
theorem call_same {o : Oper} {env : Env} {h h1 : H} {f f2 : FuncId} {args args2 : List V} (ha : aop ty tk o env h = .call f args) (hb : aop ty tk o env h1 = .call f2 args2) : f2 = f ∧ args2 = args := by
  have := call_heap ha h1
  rw [hb] at this
  injection this with e1 e2
  exact ⟨e1, e2⟩
theorem take_heap {o : Oper} {q : Nat} (ht : takeOf tk o = some q) {env : Env} {h : H} {p : Prop} {v : V} {e' : Env} {h' : H} (ha : aop ty tk o env h = .val p v e' h') : h' = h := by
  unfold takeOf at ht
  unfold aop at ha
  generalize o.op = w at ht ha
  cases w <;> try (cases ht; done)
  case assign x =>
    cases x <;> try (cases ht; done)
    simp only [] at ha
    split at ha <;> (simp only [Res.val.injEq] at ha; exact ha.2.2.2.symm)
  case slice t x lo hi m =>
    cases m with
    | some m => cases x <;> cases lo <;> cases hi <;> cases ht
    | none =>
      rcases sliceOp_val ty _ ha with ⟨p1, v1, e1, hr⟩ | hr
      · simp only [Res.val.injEq] at hr; exact hr.2.2.2
      · cases hr
  case call c =>
    obtain ⟨cal, args, ts⟩ := c
    cases cal with
    | value f => cases ht
    | builtin b =>
      cases b <;> try (simp at ht; done)
      replace ha : (if rwB tk o.dst = true then rowApp ty .append ts.toList args.toList env h else builtin ty .append ts.toList args.toList env h) = _ := ha
      split at ha
      · rename_i hrw
        exfalso
        simp only [hrw, if_true] at ht
        split at ht <;> cases ht
      unfold builtin at ha
      split at ha <;> try (cases ha; done)
      all_goals first
        | (split at ha
           · generalize append ty _ _ _ = r at ha
             cases r with
             | ok q u => simp only [R1.res, Res.val.injEq] at ha; exact ha.2.2.2.symm
             | bad => cases ha
           · cases ha)
        | (rename_i hb _ _; cases hb)
        | (rename_i hb; cases hb)
    | _ => cases ht
theorem isM_load {o : Oper} (hm : isM tk o = true) {env : Env} {h : H} {p : Prop} {v : V} {e' : Env} {h' : H} (hst : stillX o env = true) (ha : aop ty tk o env h = .val p v e' h') : e' = env := by
  unfold isM at hm
  unfold stillX at hst
  unfold aop at ha
  generalize o.op = w at hm ha hst
  cases w <;> try (cases hm; done)
  case store t a x =>
    cases x with
    | tmp i =>
      simp only [Bool.and_eq_true, getL_eq] at hst
      simp only [] at ha
      unfold store at ha
      repeat' split at ha
      all_goals first
        | (cases ha; done)
        | (simp only [Res.val.injEq] at ha
           rw [← ha.2.2.1, bareX_demote hst.2, put_get (by simpa using hst.1)])
    | _ =>
      simp only [] at ha
      unfold store at ha
      repeat' split at ha
      all_goals first
        | (cases ha; done)
        | (simp only [Res.val.injEq] at ha; exact ha.2.2.1.symm)
  simp only [] at ha
  unfold load at ha
  repeat' split at ha
  all_goals first
    | (cases ha; done)
    | (simp only [Res.val.injEq] at ha; exact ha.2.2.1.symm)
    | (unfold loadN at ha; split at ha <;> first | (cases ha; done) | (simp only [Res.val.injEq] at ha; exact ha.2.2.1.symm))
theorem pass1_ok {ops : List Oper} {HS : List H} {MS : List Nat} {MM : Memo} : ∀ (l : List Oper) (i : Nat) (e : Env) (h : H) (hs : List H) (ms : List Nat) (memo : Memo), pass1 ty call tk ops l i e h hs ms memo = some (HS, MS, MM) → hs[ms.length]? = some h → hs.length = ms.length + 1 →
    (∀ (j : Nat) (x : H), hs[j]? = some x → HS[j]? = some x) ∧ ∀ q ∈ MM, q ∈ memo ∨ call q.2.1 q.2.2.1 (HS.getD q.1 []) = some (.ret q.2.2.2.1, HS.getD q.2.2.2.2 [])
  | [], i, e, h, hs, ms, memo, hr, h0, hl => by
    simp only [pass1, Option.some.injEq, Prod.mk.injEq] at hr
    obtain ⟨rfl, rfl, rfl⟩ := hr
    exact ⟨fun j x hx => hx, fun q hq => .inl hq⟩
  | o :: os, i, e, h, hs, ms, memo, hr, h0, hl => by
    have gd : ∀ {j : Nat} {x : H}, HS[j]? = some x → HS.getD j [] = x := fun hx => by simp [List.getD, hx]
    unfold pass1 at hr
    simp only [V.whnfL_eq] at hr
    split at hr
    · split at hr
      · rename_i f args ha
        split at hr
        · rename_i v h' hcl
          split at hr
          · rename_i hb
            have := heapB_eq _ _ hb
            subst this
            obtain ⟨k1, k2⟩ := pass1_ok os _ _ _ _ _ _ hr h0 hl
            refine ⟨k1, fun q hq => ?_⟩
            rcases k2 q hq with hm | hm
            · rcases List.mem_cons.1 hm with rfl | hm
              · refine .inr ?_
                simp only [gd (k1 _ _ h0)]
                exact hcl
              · exact .inl hm
            · exact .inr hm
          · have hl2 : (hs ++ [h']).length = (ms ++ [i]).length + 1 := by simp [hl]
            have h2 : (hs ++ [h'])[(ms ++ [i]).length]? = some h' := by
              rw [List.getElem?_append_right (by simp [hl])]
              simp [hl]
            obtain ⟨k1, k2⟩ := pass1_ok os _ _ _ _ _ _ hr h2 hl2
            have k3 : ∀ (j : Nat) (x : H), hs[j]? = some x → HS[j]? = some x := fun j x hx => k1 j x (by rw [List.getElem?_append_left (List.getElem?_eq_some_iff.1 hx).1]; exact hx)
            refine ⟨k3, fun q hq => ?_⟩
            rcases k2 q hq with hm | hm
            · rcases List.mem_cons.1 hm with rfl | hm
              · refine .inr ?_
                have e2 : HS[ms.length + 1]? = some h' := k1 _ _ (by simpa using h2)
                simp only [gd (k3 _ _ h0), gd e2]
                exact hcl
              · exact .inl hm
            · exact .inr hm
        · cases hr
      · rename_i v e' h' ha
        split at hr
        · have hl2 : (hs ++ [h']).length = (ms ++ [i]).length + 1 := by simp [hl]
          have h2 : (hs ++ [h'])[(ms ++ [i]).length]? = some h' := by
            rw [List.getElem?_append_right (by simp [hl])]
            simp [hl]
          obtain ⟨k1, k2⟩ := pass1_ok os _ _ _ _ _ _ hr h2 hl2
          exact ⟨fun j x hx => k1 j x (by rw [List.getElem?_append_left (List.getElem?_eq_some_iff.1 hx).1]; exact hx), k2⟩
        · exact pass1_ok os _ _ _ _ _ _ hr h0 hl
      · cases hr
    · exact pass1_ok os _ _ _ _ _ _ hr h0 hl
    · cases hr
theorem lookM_ok (hc : CallOK C call) {memo : Memo} {hs : List H} (hm : ∀ q ∈ memo, call q.2.1 q.2.2.1 (hs.getD q.1 []) = some (.ret q.2.2.2.1, hs.getD q.2.2.2.2 [])) {k : Nat} : ∀ f args r h', lookM call memo hs k f args (hs.getD k []) = some (r, h') → ∀ Q : Out → H → Prop, Q r h' → C f args (hs.getD k []) Q := by
  intro f args r h' hl
  unfold lookM at hl
  split at hl
  · rename_i q hq
    have hq1 := List.find?_some hq
    simp only [Bool.and_eq_true] at hq1
    have e1 : q.1 = k := Nat.eq_of_beq_eq_true hq1.1
    have e2 : q.2.1 = f := Nat.eq_of_beq_eq_true hq1.2.1
    have e3 : q.2.2.1 = args := V.beqL_eq _ _ hq1.2.2
    have := hm q (List.mem_of_find?_eq_some hq)
    rw [e1, e2, e3, hl] at this
    exact hc _ _ _ _ _ this
  · exact hc _ _ _ _ _ hl
theorem idxN_some {ms : List Nat} {i k : Nat} (h : idxN ms i = some k) : ms[k]? = some i := by
  unfold idxN at h
  have := List.find?_some h
  try dsimp only at this
  split at this
  · rename_i m hm
    rw [hm, Nat.eq_of_beq_eq_true this]
  · cases this
theorem idxN_none {ms : List Nat} {i : Nat} (h : idxN ms i = none) : i ∉ ms := by
  intro hm
  obtain ⟨k, hk⟩ := List.getElem?_of_mem hm
  unfold idxN at h
  have := List.find?_eq_none.1 h k (List.mem_range.2 (List.getElem?_eq_some_iff.1 hk).1)
  rw [hk] at this
  simp at this
theorem quietN_sound (hc : CallOK C call) {T : List Nat} {memo : Memo} {hs : List H} (hm : ∀ q ∈ memo, call q.2.1 q.2.2.1 (hs.getD q.1 []) = some (.ret q.2.2.2.1, hs.getD q.2.2.2.2 [])) {o : Oper} {e : Env} {k : Nat} {v : V} (hq : quietN ty call tk T memo hs o e k = some v) : QuietAt ty C tk T o e v (hs.getD k []) := by
  unfold quietN at hq
  split at hq
  · rename_i him
    split at hq
    · rename_i v' e1 h' hx
      split at hq
      · rename_i hb
        simp only [Bool.and_eq_true] at hb
        simp only [Option.some.injEq] at hq
        subst hq
        have ha := aopX_val hx
        rw [isM_load him hb.1 ha] at ha
        rw [heapB_eq _ _ hb.2] at ha
        exact .inr (.inr (.inr ⟨him, _, ha, rfl⟩))
      · cases hq
    · cases hq
  · split at hq
    · rename_i ht
      split at hq
      · rename_i v' e1 h' hx
        simp only [Option.some.injEq] at hq
        subst hq
        obtain ⟨s, hs'⟩ := Option.isSome_iff_exists.1 ht
        have ha := aopX_val hx
        rw [take_heap (takeT_of hs').1 ha] at ha
        exact .inr (.inl ⟨s, _, _, hs', ha, rfl⟩)
      · cases hq
    · rename_i ht
      split at hq
      · cases hq
      · rename_i htk
        rcases quietX_sound (lookM_ok hc hm) hq with ⟨p, ha, hp⟩ | ⟨f, args, ha, hcl⟩
        · exact .inl ⟨by simpa using ht, by simpa using htk, p, ha, hp⟩
        · exact .inr (.inr (.inl ⟨f, args, ha, hcl⟩))
theorem stepN_sound (hc : CallOK C call) {ops : List Oper} {T : List Nat} {memo : Memo} {hs : List H} (hm : ∀ q ∈ memo, call q.2.1 q.2.2.1 (hs.getD q.1 []) = some (.ret q.2.2.2.1, hs.getD q.2.2.2.2 [])) {ms : List Nat} {need : List (List Nat)} {i : Nat} {o : Oper} {e : Env} {v : V} (hw : wanted ops o e = some true) (hd : dstOk n o.dst) (hst : stepN ty call tk T memo hs ms need i o e = some v) :
    StepAtN ty C n tk T ops ms need (fun k => hs.getD k []) i o e v := by
  refine ⟨hd, .inr ?_⟩
  unfold stepN at hst
  split at hst
  · rename_i k hk
    refine .inl ⟨hw, k, idxN_some hk, ?_⟩
    split at hst
    · rename_i v' e1 h' hx
      split at hst
      · rename_i hb
        simp only [Bool.and_eq_true] at hb
        simp only [Option.some.injEq] at hst
        subst hst
        have ha := aopX_val hx
        rw [isM_load hb.1 hb.2.1 ha] at ha
        rw [heapB_eq _ _ hb.2.2] at ha
        exact .inl ⟨hb.1, _, ha, rfl⟩
      · cases hst
    · rename_i f args hx
      split at hst
      · rename_i v' h' hl
        split at hst
        · rename_i hb
          simp only [Option.some.injEq] at hst
          subst hst
          have := lookM_ok hc hm _ _ _ _ hl
          rw [heapB_eq _ _ hb] at this
          exact .inr ⟨f, args, aop_of hx, this⟩
        · cases hst
      · cases hst
    · cases hst
  · rename_i hk
    refine .inr ⟨hw, idxN_none hk, fun k hkl hal => ?_⟩
    have hkm : k ∈ (List.range (ms.length + 1)).filter (allow ms need i) := List.mem_filter.2 ⟨List.mem_range.2 (by omega), hal⟩
    split at hst
    · cases hst
    · rename_i k0 r hr
      rw [hr] at hkm
      split at hst
      · rename_i v' hq
        split at hst
        · rename_i hall
          simp only [Option.some.injEq] at hst
          subst hst
          rcases List.mem_cons.1 hkm with rfl | hkr
          · exact quietN_sound hc hm hq
          · have := List.all_eq_true.1 hall k hkr
            split at this
            · rename_i v2 hq2
              rw [← V.beq_eq _ _ this]
              exact quietN_sound hc hm hq2
            · cases this
        · cases hst
      · cases hst
theorem pass2_sound (hc : CallOK C call) {ops : List Oper} {T : List Nat} {memo : Memo} {hs : List H} (hm : ∀ q ∈ memo, call q.2.1 q.2.2.1 (hs.getD q.1 []) = some (.ret q.2.2.2.1, hs.getD q.2.2.2.2 [])) {ms : List Nat} {need : List (List Nat)} : ∀ (l : List Oper) (i : Nat) (env e : Env), pass2 ty call n tk ops T memo hs ms need l i env = some e →
    ∃ vals : List V, vals.length = l.length ∧ (∀ (j : Nat) (o : Oper) (v : V), l[j]? = some o → vals[j]? = some v → StepAtN ty C n tk T ops ms need (fun k => hs.getD k []) (i + j) o (putsL env (l.take j) (vals.take j)) v) ∧ e = putsL env l vals
  | [], i, env, e, hp => by
    simp only [pass2, Option.some.injEq] at hp
    exact ⟨[], rfl, fun j o v hj => by simp at hj, hp.symm⟩
  | o :: os, i, env, e, hp => by
    unfold pass2 at hp
    simp only [forceO_eq] at hp
    have fin : ∀ v : V, StepAtN ty C n tk T ops ms need (fun k => hs.getD k []) i o env v → pass2 ty call n tk ops T memo hs ms need os (i + 1) (putD o.dst env v) = some e →
        ∃ vals : List V, vals.length = (o :: os).length ∧ (∀ (j : Nat) (o' : Oper) (v : V), (o :: os)[j]? = some o' → vals[j]? = some v → StepAtN ty C n tk T ops ms need (fun k => hs.getD k []) (i + j) o' (putsL env ((o :: os).take j) (vals.take j)) v) ∧ e = putsL env (o :: os) vals := by
      intro v hv hp2
      obtain ⟨vals, k1, k2, k3⟩ := pass2_sound hc hm os (i + 1) _ e hp2
      refine ⟨v :: vals, by simp [k1], fun j o' v' ho hv' => ?_, k3⟩
      cases j with
      | zero => simp at ho hv'; subst ho; subst hv'; exact hv
      | succ j =>
        simp at ho hv'
        have := k2 j o' v' ho hv'
        rw [show i + 1 + j = i + (j + 1) by omega] at this
        exact this
    split at hp
    · rename_i hw
      split at hp
      · rename_i v hst
        split at hp
        · rename_i hd
          refine fin v (stepN_sound hc hm hw (dstX_ok hd) hst) ?_
          revert hp
          unfold putD
          cases o.dst <;> simp only [putF_eq] <;> exact fun h => h
        · cases hp
      · cases hp
    · rename_i hw
      split at hp
      · rename_i hd
        simp only [Bool.and_eq_true, Option.isNone_iff_eq_none] at hd
        refine fin (.tup []) ⟨dstX_ok hd.1, .inl ⟨hw, rfl, fun k hk => absurd (List.mem_of_getElem? hk) (idxN_none hd.2)⟩⟩ hp
      · cases hp
    · cases hp
theorem condN_ok {T ks : List Nat} {env : Env} {l : List Oper} (h : condN tk T ks env l = true) : ordB [] l = true ∧ keptB l ks env.keys = true ∧ takeB tk T l ks = true := by
  unfold condN at h
  simp only [Bool.and_eq_true] at h
  exact h
theorem condN2_ok {ms : List Nat} {need : List (List Nat)} {l : List Oper} (h : condN2 ms need l = true) : needOK l need = true ∧ chainOK ms need = true ∧ ms.all (fun m => decide (m < l.length)) = true := by
  unfold condN2 at h
  simp only [Bool.and_eq_true] at h
  exact h
theorem memo_ok {ops l : List Oper} {env : Env} {h : H} {hs : List H} {ms : List Nat} {memo : Memo} (hp : pass1 ty call tk ops l 0 env h [h] [] [] = some (hs, ms, memo)) : hs.getD 0 [] = h ∧ ∀ q ∈ memo, call q.2.1 q.2.2.1 (hs.getD q.1 []) = some (.ret q.2.2.2.1, hs.getD q.2.2.2.2 []) := by
  obtain ⟨k1, k2⟩ := pass1_ok _ _ _ _ _ _ _ hp rfl rfl
  refine ⟨by simp [List.getD, k1 0 h rfl], fun q hq => (k2 q hq).resolve_left (by simp)⟩
theorem drawMX_sound (hc : CallOK C call) (hC : CMono C C) {ops : List Oper} {env : Env} {h : H} {e : Ex} {env' : Env} {h' : H} (hs : drawMX ty call n keep (maskOf keep) tk ops env h = some (e, env', h')) {Q : PostX} (hq : Q e env' h') :
    evalAny ty C n tk ops (regQ keep Q) (panQ Q) ops.length (Array.replicate ops.length false) env h := by
  unfold drawMX at hs
  simp only [keepF_eq] at hs
  split at hs
  · rename_i t a x hl
    split at hs
    · rename_i hcond
      simp only [Bool.and_eq_true, decide_eq_true_eq, Bool.not_eq_true'] at hcond
      obtain ⟨⟨⟨⟨⟨⟨⟨c1, c2⟩, c4⟩, c5⟩, c6⟩, c7⟩, c8⟩, c9⟩ := hcond
      obtain ⟨m1, m3, m4⟩ := condN_ok c7
      unfold lastSt at hl
      split at hl
      · rename_i last hlast
        split at hl
        · rename_i t' a' x' ho hg hd
          simp only [Option.some.injEq, Prod.mk.injEq] at hl
          obtain ⟨rfl, rfl, rfl⟩ := hl
          split at hs
          · rename_i HS ms memo hp1
            split at hs
            · rename_i hc2
              obtain ⟨n1, n2, n3⟩ := condN2_ok hc2
              obtain ⟨j1, j2⟩ := memo_ok hp1
              split at hs
              · rename_i g hp
                obtain ⟨vals, v1, v2, v3⟩ := pass2_sound (C := C) hc j2 _ _ _ _ hp
                split at hs
                · rename_i v2' e2 h2 hst
                  rw [← j1]
                  refine any_drawNS (ms := ms) (hs := fun k => HS.getD k []) (takesX tk ops) hC (ops.length - 1) hlast c6 ho hg hd (by rw [c1, c2, c4, c5]; rfl) m1 n1 n2 n3 m3 m4 c8 c9 v1 (fun i o v hi hv => by have := v2 i o v hi hv; rwa [Nat.zero_add] at this) ?_
                  rw [getL_eq, getL_eq] at hst
                  have hst2 : store ty t' (g.get a').demote (g.get x') [] (HS.getD ms.length []) = .val (true = true) v2' e2.toE h2 := by have h9 := storeX_up ty t' (g.get a').demote (g.get x') (.of []) (HS.getD ms.length []); rw [hst] at h9; exact h9.symm
                  rw [← v3]
                  show stK _ _ _ _ _ _
                  unfold stK
                  rw [hst2]
                  refine ⟨rfl, ?_⟩
                  split at hs
                  · simp only [forceN_eq, forceAt_eq, Option.some.injEq, Prod.mk.injEq] at hs
                    obtain ⟨rfl, rfl, rfl⟩ := hs
                    exact hq
                  · cases hs
                · cases hs
              · cases hs
            · cases hs
          · cases hs
        · cases hl
      · cases hl
    · cases hs
  · split at hs
    · rename_i hcond
      obtain ⟨m1, m3, m4⟩ := condN_ok hcond
      split at hs
      · rename_i HS ms memo hp1
        split at hs
        · rename_i hc2
          obtain ⟨n1, n2, n3⟩ := condN2_ok hc2
          obtain ⟨j1, j2⟩ := memo_ok hp1
          split at hs
          · rename_i g hp
            obtain ⟨vals, v1, v2, v3⟩ := pass2_sound (C := C) hc j2 _ _ _ _ hp
            simp only [Option.some.injEq, Prod.mk.injEq] at hs
            obtain ⟨rfl, rfl, rfl⟩ := hs
            rw [← j1]
            refine any_drawN (ms := ms) (hs := fun k => HS.getD k []) (takesX tk ops) hC m1 n1 n2 n3 m3 m4 v1 (fun i o v hi hv => by have := v2 i o v hi hv; rwa [Nat.zero_add] at this) ?_
            rw [← v3]
            exact hq
          · cases hs
        · cases hs
      · cases hs
    · cases hs
theorem preX_sound (hc : CallOK C call) (hC : CMono C C) {ops : List Oper} {env : Env} {h : H} {env' : Env} {h' : H} (hs : preX ty call n keep (maskOf keep) tk ops env h = some (env', h')) {K : Env → H → Prop} {X : V → Env → H → Prop} (hk : K env' h') :
    evalAny ty C n tk ops (fun e h => K (e.keep keep) h) X ops.length (Array.replicate ops.length false) env h := by
  unfold preX at hs
  simp only [keepF_eq] at hs
  split at hs
  · rename_i e h1 hd
    simp only [Option.some.injEq, Prod.mk.injEq] at hs
    obtain ⟨rfl, rfl⟩ := hs
    exact drawMX_sound (C := C) (Q := fun x e h => match x with | .panic v => X v e h | _ => K e h) hc hC hd hk
  · split at hs
    · cases hs
    split at hs
    · rename_i e1 h1 r ha
      split at hs
      · rename_i hall
        simp only [Option.some.injEq, Prod.mk.injEq] at hs
        obtain ⟨rfl, rfl⟩ := hs
        refine anyX_sound hc _ _ _ _ _ ha fun q hqm => ?_
        rcases List.mem_cons.1 hqm with rfl | hqm
        · exact hk
        · have := List.all_eq_true.1 hall q hqm
          simp only [Bool.and_eq_true] at this
          show K (q.1.keep keep) q.2
          rw [envB_eq _ _ this.1, heapB_eq _ _ this.2]
          exact hk
      · cases hs
    · cases hs
theorem drawSX_sound (hc : CallOK C call) (hC : CMono C C) {ops : List Oper} {env : Env} {h : H} {e : Ex} {env' : Env} {h' : H} (hs : drawSX ty call n keep (maskOf keep) tk ops env h = some (e, env', h')) {Q : PostX} (hq : Q e env' h') :
    evalSplit ty C n tk ops (regQ keep Q) (panQ Q) env h := by
  unfold drawSX at hs
  simp only [keepF_eq] at hs
  split at hs
  · rename_i p hp
    have hp1 := List.find?_some hp
    simp only [Bool.and_eq_true] at hp1
    split at hs
    · rename_i e1 h1 hd
      split at hs
      · rename_i e2 h2 r ha
        split at hs
        · rename_i hall
          simp only [Option.some.injEq, Prod.mk.injEq] at hs
          obtain ⟨rfl, rfl, rfl⟩ := hs
          refine ⟨p, keep, hp1.2.2.1, hp1.2.2.2, ?_⟩
          have hpl : (ops.take p).length = p := by
            have := hp1.2.2.1
            unfold splitB at this
            simp only [Bool.and_eq_true] at this
            have := Nat.le_of_ble_eq_true this.1
            rw [List.length_take]; omega
          have hmain : evalAny ty C n tk ops (regQ keep Q) (panQ Q) (ops.length - p) ((List.replicate p true ++ List.replicate (ops.length - p) false).toArray) e1 h1 := by
            refine anyX_sound hc _ _ _ _ _ ha fun q hqm => ?_
            rcases List.mem_cons.1 hqm with rfl | hqm
            · exact hq
            · have := List.all_eq_true.1 hall q hqm
              simp only [Bool.and_eq_true] at this
              show Q .normal (q.1.keep keep) q.2
              rw [envB_eq _ _ this.1, heapB_eq _ _ this.2]
              exact hq
          have := preX_sound (C := C) (X := panQ Q) (K := fun e h => evalAny ty C n tk ops (regQ keep Q) (panQ Q) (ops.length - p) ((List.replicate p true ++ List.replicate (ops.length - p) false).toArray) e h) hc hC hd hmain
          rw [hpl] at this
          exact this
        · cases hs
      · cases hs
    · cases hs
  · cases hs
theorem drawX_sound (hc : CallOK C call) (hC : CMono C C) {id : Nat} {ops : List Oper} {env : Env} {h : H} {e : Ex} {env' : Env} {h' : H} (hs : drawX ty call n keep (maskOf keep) tk ops env h = some (e, env', h')) {Q : PostX} (hq : Q e env' h') :
    wp ty C n keep tk (.region id ⟨ops⟩ true) Q env h := by
  unfold drawX at hs
  simp only [keepF_eq] at hs
  split at hs
  · rename_i hb
    simp only [Bool.and_eq_true] at hb
    split at hs
    · rename_i e1 hp
      simp only [Option.some.injEq, Prod.mk.injEq] at hs
      obtain ⟨rfl, rfl, rfl⟩ := hs
      exact wp_draw hC hb.1.1 hb.1.2 (pureX_sound hc ops env h e1 hp hq)
    · cases hs
  split at hs
  · simp only [wp, if_true]
    exact .inr (drawSX_sound hc hC hs hq)
  · split at hs
    · rename_i r hd
      simp only [Option.some.injEq] at hs
      subst hs
      simp only [wp, if_true]
      exact .inl (drawMX_sound hc hC hd hq)
    split at hs
    · simp only [wp, if_true]
      exact .inr (drawSX_sound hc hC hs hq)
    split at hs
    · rename_i e1 h1 r ha
      split at hs
      · rename_i hall
        simp only [Option.some.injEq, Prod.mk.injEq] at hs
        obtain ⟨rfl, rfl, rfl⟩ := hs
        simp only [wp, if_true]
        refine .inl ?_
        show evalAny ty C n tk ops _ _ ops.length (Array.replicate ops.length false) env h
        refine anyX_sound hc _ _ _ _ _ ha fun q hqm => ?_
        rcases List.mem_cons.1 hqm with rfl | hqm
        · exact hq
        · have := List.all_eq_true.1 hall q hqm
          simp only [Bool.and_eq_true] at this
          show Q .normal (q.1.keep keep) q.2
          rw [envB_eq _ _ this.1, heapB_eq _ _ this.2]
          exact hq
      · cases hs
    · cases hs
theorem drawX_kept {ops : List Oper} {env : Env} {h : H} {e : Ex} {env' : Env} {h' : H} (hs : drawX ty call n keep (maskOf keep) tk ops env h = some (e, env', h')) : e = .normal ∧ env'.keep keep = env' := by
  have hm : ∀ {ops : List Oper} {e : Ex} {env' : Env} {h' : H}, drawMX ty call n keep (maskOf keep) tk ops env h = some (e, env', h') → e = .normal ∧ env'.keep keep = env' := fun hs => by
    unfold drawMX at hs
    simp only [keepF_eq] at hs
    repeat' split at hs
    all_goals first
      | (cases hs; done)
      | (simp only [forceN_eq, forceAt_eq, Option.some.injEq, Prod.mk.injEq] at hs
         obtain ⟨rfl, rfl, rfl⟩ := hs
         exact ⟨rfl, keep_keep _ _⟩)
  have hsx : drawSX ty call n keep (maskOf keep) tk ops env h = some (e, env', h') → e = .normal ∧ env'.keep keep = env' := fun hs => by
    unfold drawSX at hs
    simp only [keepF_eq] at hs
    repeat' split at hs
    all_goals first
      | (cases hs; done)
      | (simp only [Option.some.injEq, Prod.mk.injEq] at hs
         obtain ⟨rfl, rfl, rfl⟩ := hs
         exact ⟨rfl, keep_keep _ _⟩)
  unfold drawX at hs
  simp only [keepF_eq] at hs
  split at hs
  · split at hs
    · simp only [Option.some.injEq, Prod.mk.injEq] at hs
      obtain ⟨rfl, rfl, rfl⟩ := hs
      exact ⟨rfl, keep_keep _ _⟩
    · cases hs
  split at hs
  · exact hsx hs
  split at hs
  · rename_i r hd
    simp only [Option.some.injEq] at hs
    subst hs
    exact hm hd
  split at hs
  · exact hsx hs
  split at hs
  · split at hs
    · simp only [Option.some.injEq, Prod.mk.injEq] at hs
      obtain ⟨rfl, rfl, rfl⟩ := hs
      exact ⟨rfl, keep_keep _ _⟩
    · cases hs
  · cases hs
def Ex.isPan : Ex → Bool
  | .panic _ => true
  | _ => false
theorem codeX_kept : ∀ (k : Nat) (c : Code) (env : Env) (h : H) (e : Ex) (env' : Env) (h' : H), codeX ty call n keep (maskOf keep) tk k c env h = some (e, env', h') → env.keep keep = env → e.isPan = false → env'.keep keep = env'
  | 0, c, env, h, e, env', h', hs, hk, he => by cases hs
  | k + 1, c, env, h, e, env', h', hs, hk, he => by
    unfold codeX at hs
    cases c with
    | skip =>
      simp only [Option.some.injEq, Prod.mk.injEq] at hs
      obtain ⟨rfl, rfl, rfl⟩ := hs
      exact hk
    | region id ops draw =>
      simp only [] at hs
      split at hs
      · exact (drawX_kept hs).2
      · split at hs
        · cases hs
        · split at hs
          · rename_i t1 b1 h1 ho
            have hb1 : b1.keep keep = b1 := by have := opsX_base _ _ _ _ _ _ ho; rw [show b1 = env from this]; exact hk
            simp only [finF_eq keep hb1, Option.some.injEq, Prod.mk.injEq] at hs
            obtain ⟨rfl, rfl, rfl⟩ := hs
            exact keep_keep _ _
          · rename_i e1 x h1 hne ho
            simp only [Option.some.injEq, Prod.mk.injEq] at hs
            obtain ⟨rfl, rfl, rfl⟩ := hs
            exfalso
            rcases opsX_ends _ _ _ _ _ _ ho with rfl | ⟨v, rfl⟩
            · obtain ⟨t, b⟩ := x
              exact hne t b rfl rfl
            · cases he
          · cases hs
    | seq a b =>
      simp only [] at hs
      split at hs
      · rename_i e1 h1 ha
        exact codeX_kept k b _ _ _ _ _ hs (codeX_kept k a _ _ _ _ _ ha hk rfl) he
      · exact codeX_kept k a _ _ _ _ _ hs hk he
    | cond c a b =>
      simp only [] at hs
      split at hs
      · exact codeX_kept k _ _ _ _ _ _ hs hk he
      · cases hs
    | block id b =>
      simp only [] at hs
      split at hs
      · rename_i i e1 h1 hb
        have := codeX_kept k b _ _ _ _ _ hb hk rfl
        split at hs
        all_goals
          simp only [Option.some.injEq, Prod.mk.injEq] at hs
          obtain ⟨rfl, rfl, rfl⟩ := hs
          exact this
      · exact codeX_kept k b _ _ _ _ _ hs hk he
    | loop b =>
      simp only [] at hs
      split at hs
      · rename_i e1 h1 ha
        exact codeX_kept k _ _ _ _ _ _ hs (codeX_kept k b _ _ _ _ _ ha hk rfl) he
      · exact codeX_kept k b _ _ _ _ _ hs hk he
    | exit id =>
      simp only [Option.some.injEq, Prod.mk.injEq] at hs
      obtain ⟨rfl, rfl, rfl⟩ := hs
      exact hk
    | ret =>
      simp only [Option.some.injEq, Prod.mk.injEq] at hs
      obtain ⟨rfl, rfl, rfl⟩ := hs
      exact hk
    | _ => cases hs
/-- What a code comes to. -/
theorem codeX_sound (hc : CallOK C call) (hC : CMono C C) : ∀ (k : Nat) (c : Code) (env : Env) (h : H) (e : Ex) (env' : Env) (h' : H), codeX ty call n keep (maskOf keep) tk k c env h = some (e, env', h') → env.keep keep = env →
    (∀ Q : PostX, Q e env' h' → wp ty C n keep tk c Q env h) ∧ ∀ b, c = .loop b → ∀ (Q : PostX) (he : H) (I : Env → H → Prop), Q e env' h' → (∀ env1 h1, wp ty C n keep tk b (thenQ (Wk he I) Q) env1 h1 → I env1 h1) → I env h
  | 0, c, env, h, e, env', h', hs, hkp => by cases hs
  | k + 1, c, env, h, e, env', h', hs, hkp => by
    unfold codeX at hs
    cases c with
    | skip =>
      simp only [Option.some.injEq, Prod.mk.injEq] at hs
      obtain ⟨rfl, rfl, rfl⟩ := hs
      exact ⟨fun Q hq => by rw [wp_skip]; exact hq, fun b hb => by cases hb⟩
    | region id ops draw =>
      refine ⟨fun Q hq => ?_, fun b hb => by cases hb⟩
      simp only [] at hs
      split at hs
      · rename_i hd
        subst hd
        exact drawX_sound (id := id) hc hC hs hq
      · rename_i hd
        have hd : draw = false := by simpa using hd
        subst hd
        split at hs
        · cases hs
        · rename_i hin
          refine wp_region_i (l := ops.toList) hin ?_
          split at hs
          · rename_i t1 b1 h1 ho
            have hb1 : b1.keep keep = b1 := by have := opsX_base _ _ _ _ _ _ ho; rw [show b1 = env from this]; exact hkp
            simp only [finF_eq keep hb1, Option.some.injEq, Prod.mk.injEq] at hs
            obtain ⟨rfl, rfl, rfl⟩ := hs
            exact opsX_sound hc _ (.mk [] env) _ _ _ _ ho (fun _ => hq) (fun v hv => by cases hv)
          · rename_i e1 x h1 hne ho
            simp only [Option.some.injEq, Prod.mk.injEq] at hs
            obtain ⟨rfl, rfl, rfl⟩ := hs
            refine opsX_sound hc _ (.mk [] env) _ _ _ _ ho (fun he => ?_) (fun v hv => ?_)
            · subst he; obtain ⟨t, b⟩ := x; exact absurd rfl (hne t b · rfl)
            · subst hv; exact hq
          · cases hs
    | seq a b =>
      refine ⟨fun Q hq => ?_, fun b hb => by cases hb⟩
      rw [wp_seq]
      simp only [] at hs
      split at hs
      · rename_i e1 h1 ha
        exact (codeX_sound hc hC k a _ _ _ _ _ ha hkp).1 _ ((codeX_sound hc hC k b _ _ _ _ _ hs (codeX_kept k a _ _ _ _ _ ha hkp rfl)).1 Q hq)
      · rename_i hne
        refine (codeX_sound hc hC k a _ _ _ _ _ hs hkp).1 _ ?_
        cases e <;> first | exact hq | exact absurd hs (hne _ _)
    | cond c a b =>
      refine ⟨fun Q hq => ?_, fun b hb => by cases hb⟩
      rw [wp_cond]
      simp only [] at hs
      rw [evF_eq] at hs
      replace hs : (match ev ty env 0 c with | .bool t => codeX ty call n keep (maskOf keep) tk k (if t = true then a else b) env h | _ => none) = some (e, env', h') := hs
      split at hs
      · rename_i t hv
        rw [hv]
        have hq2 : wkQ h Q e env' h' := by cases e <;> first | exact Wk.same hq | exact hq
        cases t with
        | true => rw [condK_tt]; rw [if_pos rfl] at hs; exact (codeX_sound hc hC k a _ _ _ _ _ hs hkp).1 _ hq2
        | false => rw [condK_ff]; rw [if_neg (by decide)] at hs; exact (codeX_sound hc hC k b _ _ _ _ _ hs hkp).1 _ hq2
      · cases hs
    | block id b =>
      refine ⟨fun Q hq => ?_, fun b hb => by cases hb⟩
      rw [wp_block]
      simp only [] at hs
      split at hs
      · rename_i i e1 h1 hb
        split at hs
        · rename_i hi
          simp only [Option.some.injEq, Prod.mk.injEq] at hs
          obtain ⟨rfl, rfl, rfl⟩ := hs
          refine (codeX_sound hc hC k b _ _ _ _ _ hb hkp).1 _ ?_
          show (if i = id then _ else _)
          rw [if_pos hi]
          exact Wk.same hq
        · rename_i hi
          simp only [Option.some.injEq, Prod.mk.injEq] at hs
          obtain ⟨rfl, rfl, rfl⟩ := hs
          refine (codeX_sound hc hC k b _ _ _ _ _ hb hkp).1 _ ?_
          show (if i = id then _ else _)
          rw [if_neg hi]
          exact hq
      · rename_i hne
        refine (codeX_sound hc hC k b _ _ _ _ _ hs hkp).1 _ ?_
        cases e <;> first | exact Wk.same hq | exact absurd hs (hne _ _ _) | exact hq
    | loop b =>
      have key : ∀ (Q : PostX) (he : H) (I : Env → H → Prop), Q e env' h' → (∀ env1 h1, wp ty C n keep tk b (thenQ (Wk he I) Q) env1 h1 → I env1 h1) → I env h := fun Q he I hq hI => by
        refine hI _ _ ?_
        simp only [] at hs
        split at hs
        · rename_i e1 h1 hb
          exact (codeX_sound hc hC k b _ _ _ _ _ hb hkp).1 _ (Wk.same ((codeX_sound hc hC k (.loop b) _ _ _ _ _ hs (codeX_kept k b _ _ _ _ _ hb hkp rfl)).2 b rfl Q he I hq hI))
        · rename_i hne
          refine (codeX_sound hc hC k b _ _ _ _ _ hs hkp).1 _ ?_
          cases e <;> first | exact hq | exact absurd hs (hne _ _)
      refine ⟨fun Q hq => ?_, fun b' hb' => by cases hb'; exact key⟩
      simp only [wp]
      exact fun I hI => Wk.same (key Q h I hq hI)
    | exit id =>
      simp only [Option.some.injEq, Prod.mk.injEq] at hs
      obtain ⟨rfl, rfl, rfl⟩ := hs
      exact ⟨fun Q hq => by rw [wp_exit]; exact hq, fun b hb => by cases hb⟩
    | ret =>
      simp only [Option.some.injEq, Prod.mk.injEq] at hs
      obtain ⟨rfl, rfl, rfl⟩ := hs
      exact ⟨fun Q hq => by rw [wp_ret]; exact hq, fun b hb => by cases hb⟩
    | _ => cases hs
end
end
end Go.Proofs.Ytpbnnbjkjaajnaa.Pv
