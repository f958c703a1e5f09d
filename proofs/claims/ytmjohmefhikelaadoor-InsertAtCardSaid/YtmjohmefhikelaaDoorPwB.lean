/- The pure evaluator, part B: code, calls. -/
import Derived.Test.YtmjohmefhikelaaDoorPwA
import Derived.Orders
set_option linter.unusedVariables false
set_option linter.unusedSimpArgs false
namespace Go.Proofs.YtmjohmefhikelaaDoor.Pv
open Go

/-! ### Saying less -/
/-- The second says no more than the first. -/
inductive V.Le : V → V → Prop
  | refl (v : V) : V.Le v v
  | top (v : V) : V.Le v .top
  | nsl (e s : Nat) : V.Le (.nils e s) (.sl s [])
  | nown (e s : Nat) : V.Le (.nils e s) (.own e s [])
  | osl (e s : Nat) (xs : List V) : V.Le (.own e s xs) (.sl s xs)
  | opri (e s : Nat) : V.Le (.own e s []) (.pri none e s [])
  | lcap (s : Nat) (xs : List V) : V.Le (.cap s xs) (.sl s xs)
  | untag (o : Option Value) (e s : Nat) (xs : List V) : V.Le (.pri o e s xs) (.pri none e s xs)
  | sl (s : Nat) (xs ys : List V) (hl : xs.length = ys.length) (hc : ∀ (i : Nat) (x y : V), xs[i]? = some x → ys[i]? = some y → y.cells.length = x.cells.length) (h : ∀ (i : Nat) (x y : V), xs[i]? = some x → ys[i]? = some y → V.Le x y) : V.Le (.sl s xs) (.sl s ys)
  | own (e s : Nat) (xs ys : List V) (hl : xs.length = ys.length) (hc : ∀ (i : Nat) (x y : V), xs[i]? = some x → ys[i]? = some y → y.cells.length = x.cells.length) (h : ∀ (i : Nat) (x y : V), xs[i]? = some x → ys[i]? = some y → V.Le x y) : V.Le (.own e s xs) (.own e s ys)
  | agg (xs ys : List V) (hl : xs.length = ys.length) (h : ∀ (i : Nat) (x y : V), xs[i]? = some x → ys[i]? = some y → V.Le x y) : V.Le (.agg xs) (.agg ys)
  | tup (xs ys : List V) (hl : xs.length = ys.length) (h : ∀ (i : Nat) (x y : V), xs[i]? = some x → ys[i]? = some y → V.Le x y) : V.Le (.tup xs) (.tup ys)
/-- .. place by place. -/
def LLe (xs ys : List V) : Prop := xs.length = ys.length ∧ ∀ (i : Nat) (x y : V), xs[i]? = some x → ys[i]? = some y → V.Le x y
theorem LLe.nil : LLe [] [] := ⟨rfl, by simp⟩
theorem LLe.cons {x y : V} {xs ys : List V} (h : V.Le x y) (k : LLe xs ys) : LLe (x :: xs) (y :: ys) :=
  ⟨by simp [k.1], fun i a b ha hb => by
    cases i with
    | zero => simp at ha hb; subst ha; subst hb; exact h
    | succ i => simp at ha hb; exact k.2 i a b ha hb⟩
theorem LLe.refl (xs : List V) : LLe xs xs := ⟨rfl, fun i x y hx hy => by rw [hx] at hy; injection hy with hy; subst hy; exact .refl _⟩
inductive AObj.Le : AObj → AObj → Prop
  | refl (o : AObj) : AObj.Le o o
  | cells (t : Nat) (xs ys : List V) (h : LLe xs ys) : AObj.Le (.cells t xs) (.cells t ys)

/-- Functions that sort a slice of texts in place. -/
def inplace : List FuncId := []
/-- A region that is such a call alone, of what a slot has: the slot, the copy's slot, the function. -/
def inPl : List Oper → Option (Nat × Nat × Option Nat × FuncId)
  | [o1, o2] =>
    (match o1.op, o1.dst, o1.guard, o2.op, o2.guard with
    | .move (.tmp i), some j, none, .call { callee := .value (.func f), args := ⟨[.tmp k]⟩, argTypes := _ }, none => if (k == j && i != j && inplace.contains f) = true then some (i, j, o2.dst, f) else none
    | _, _, _, _, _ => none)
  | _ => none
def sortT (l : List (List UInt8)) : List (List UInt8) := l.mergeSort fun x y => decide (x ≤ y)
/-- .. what it comes to. -/
def sortK (n i j : Nat) (d : Option Nat) (K : Env → H → Prop) (env : Env) (h : H) : Prop :=
  ∃ o e l, env.get i = .pri o e 1 (List.map V.str l) ∧ List.length l < 4611686018427387904 ∧ i < n ∧ j < n ∧ dstOk n d ∧ K (putD d ((env.put i (.own e 1 (List.map V.str (sortT l)))).put j .top) .top) h

/-- What names no object from m on. -/
inductive V.Cl (m : Nat) : V → Prop
  | bool (b : Bool) : V.Cl m (.bool b)
  | int (k : IntKind) (n : Int) : V.Cl m (.int k n)
  | flt (k : FloatKind) (n : Nat) : V.Cl m (.flt k n)
  | cpx (k : FloatKind) (a b : Nat) : V.Cl m (.cpx k a b)
  | str (l : List UInt8) : V.Cl m (.str l)
  | nils (e sz : Nat) : V.Cl m (.nils e sz)
  | nilp : V.Cl m .nilp
  | nilm : V.Cl m .nilm
  | nilf : V.Cl m .nilf
  | nili : V.Cl m .nili
  | top : V.Cl m .top
  | raw (u : Value) : V.Cl m (.raw u)
  | pri (o : Option Value) (e sz : Nat) (xs : List V) (h : ∀ x, x ∈ xs → V.Cl m x) : V.Cl m (.pri o e sz xs)
  | sl (sz : Nat) (xs : List V) (h : ∀ x, x ∈ xs → V.Cl m x) : V.Cl m (.sl sz xs)
  | cap (sz : Nat) (xs : List V) (h : ∀ x, x ∈ xs → V.Cl m x) : V.Cl m (.cap sz xs)
  | slen (n : Nat) : V.Cl m (.slen n)
  | own (e sz : Nat) (xs : List V) (h : ∀ x, x ∈ xs → V.Cl m x) : V.Cl m (.own e sz xs)
  | imm (xs : List V) (h : ∀ x, x ∈ xs → V.Cl m x) : V.Cl m (.imm xs)
  | agg (xs : List V) (h : ∀ x, x ∈ xs → V.Cl m x) : V.Cl m (.agg xs)
  | tup (xs : List V) (h : ∀ x, x ∈ xs → V.Cl m x) : V.Cl m (.tup xs)
  | iface (t : TypeId) (v : V) (h : V.Cl m v) : V.Cl m (.iface t v)
  | func (fn : Fn) (fs cs : List V) (h1 : ∀ x, x ∈ fs → V.Cl m x) (h2 : ∀ x, x ∈ cs → V.Cl m x) : V.Cl m (.func fn fs cs)
  | ref (id off : Nat) (h : id < m) : V.Cl m (.ref id off)
  | msl (id off len sz : Nat) (h : id < m) : V.Cl m (.msl id off len sz)
  | map (id : Nat) (h : id < m) : V.Cl m (.map id)
def AObj.Cl (m : Nat) : AObj → Prop
  | .cells _ cs => ∀ x, x ∈ cs → V.Cl m x
  | .map es => ∀ k v, (k, v) ∈ es → V.Cl m k ∧ V.Cl m v
  | .siter _ _ => True
  | .miter i _ _ _ => i < m


/-- A state that says no more; what the piece itself has made since the heap he may be left behind. -/
structure Weak (he : H) (env : Env) (h : H) (env' : Env) (h' : H) : Prop where
  env : ∀ i, V.Le (env.get i) (env'.get i)
  obj : ∀ (i : Nat) (o' : AObj), h'[i]? = some o' → ∃ o, h[i]? = some o ∧ AObj.Le o o'
  len : h'.length = h.length ∨ (h'.length = he.length ∧ he.length ≤ h.length ∧ (∀ i, V.Cl he.length (env'.get i)) ∧ ∀ (i : Nat) (o : AObj), h'[i]? = some o → AObj.Cl he.length o ∨ he[i]? = some o)
def Wk (he : H) (K : Env → H → Prop) (env : Env) (h : H) : Prop := ∃ env' h', Weak he env h env' h' ∧ K env' h'

section
variable (ty : Nat → Ty) (C : CallP) (n : Nat) (keep tk : List Nat)

/-- The operations of a region in any order that its edges let in. -/
def evalAny (ops : List Oper) (Kc : Env → H → Prop) (X : V → Env → H → Prop) : Nat → Array Bool → Env → H → Prop
  | 0, listed, env, h => Region.ready .any ops.toArray listed = [] ∧ Kc env h
  | fuel + 1, listed, env, h =>
    (Region.ready .any ops.toArray listed = [] → Kc env h) ∧
    ∀ i ∈ Region.ready .any ops.toArray listed, ∃ o, ops[i]? = some o ∧ runOp ty C n tk (wanted ops o env) o env h (evalAny ops Kc X fuel (listed.setIfInBounds i true)) X

/-- Each operation from p on waits for all ahead of p. -/
def splitB (ops : List Oper) (p : Nat) : Bool :=
  Nat.ble p ops.length && (List.range ops.length).all fun i => Nat.blt i p || (match ops[i]? with
    | some o => (List.range p).all fun j => o.after.toList.any fun a => Region.binds .any a && Nat.beq a.on j
    | none => true)
def headB (ops : List Oper) (p : Nat) : Bool :=
  (List.range p).all fun i => match ops[i]? with
    | some o => o.after.toList.all fun a => !Region.binds .any a || Nat.blt a.on i
    | none => true
/-- A region that falls into two, one behind the other; what is between is kept but for what is not wanted. -/
def evalSplit (ops : List Oper) (Kc : Env → H → Prop) (X : V → Env → H → Prop) (env : Env) (h : H) : Prop :=
  ∃ p ks, splitB ops p = true ∧ headB ops p = true ∧
    evalAny ty C n tk (ops.take p) (fun e h => evalAny ty C n tk ops Kc X (ops.length - p) ((List.replicate p true ++ List.replicate (ops.length - p) false).toArray) (e.keep ks) h) X p (Array.replicate p false) env h
def evalDraw (ops : List Oper) (Kc : Env → H → Prop) (X : V → Env → H → Prop) (env : Env) (h : H) : Prop :=
  evalAny ty C n tk ops Kc X ops.length (Array.replicate ops.length false) env h ∨ evalSplit ty C n tk ops Kc X env h

abbrev PostX := Ex → Env → H → Prop
def thenQ (next : Env → H → Prop) (Q : PostX) (e : Ex) (env : Env) (h : H) : Prop :=
  match e with
  | .normal => next env h
  | e => Q e env h
/-- At the end of a piece that began at the heap he. -/
def wkQ (he : H) (Q : PostX) (e : Ex) (env : Env) (h : H) : Prop :=
  match e with
  | .normal => Wk he (Q .normal) env h
  | e => Q e env h
def blockQ (he : H) (id : Nat) (Q : PostX) (e : Ex) (env : Env) (h : H) : Prop :=
  match e with
  | .exit id' => if id' = id then Wk he (Q .normal) env h else Q (.exit id') env h
  | .normal => Wk he (Q .normal) env h
  | e => Q e env h
def regQ (keep : List Nat) (Q : PostX) (env : Env) (h : H) : Prop := Q .normal (env.keep keep) h
def panQ (Q : PostX) (v : V) (env : Env) (h : H) : Prop := Q (.panic v) env h
/-- Jumps to labels of a scope go on by J. -/
def scopeQ (he : H) (body : Code) (J : Nat → Env → H → Prop) (Q : PostX) (e : Ex) (env : Env) (h : H) : Prop :=
  match e with
  | .goto l => if (findLabel body l).isSome then Wk he (J l) env h else Q (.goto l) env h
  | e => Q e env h

def noDef (o : Oper) : Bool := match o.op with | .defer _ => false | _ => true
def noDefC : Code → Bool
  | .region _ ops _ => ops.toList.all noDef
  | .seq x y => noDefC x && noDefC y
  | .cond _ x y => noDefC x && noDefC y
  | .block _ c => noDefC c
  | .loop c => noDefC c
  | .scope c => noDefC c
  | .rangeFunc _ _ x y => noDefC x && noDefC y
  | _ => true
/-- A code that ranges over no function. -/
def noRangeC : Code → Bool
  | .seq x y => noRangeC x && noRangeC y
  | .cond _ x y => noRangeC x && noRangeC y
  | .block _ c => noRangeC c
  | .loop c => noRangeC c
  | .scope c => noRangeC c
  | .rangeFunc _ _ _ _ => false
  | _ => true
def updH : List (Nat × AObj) → H → H
  | [], h => h
  | (i, o) :: us, h => updH us (h.set i o)
def putAll : List Nat → List V → Env → Env
  | p :: ps, v :: vs, env => putAll ps vs (env.put p v)
  | _, _, env => env
def demEnv (env : Env) : Env := env.map fun (i, v) => (i, v.demote)
/-- At a round's end: on with the heap; or the loop is left. -/
def roundK (he : H) (own : List Nat) (K : H → Prop) (stop : Ex → H → Prop) (e : Ex) (env : Env) (h : H) : Prop :=
  match e with
  | .normal => Wk he (fun _ h' => (∀ i ∈ own, h'[i]? = he[i]?) ∧ K h') env h
  | .panic _ => False
  | e => stop e h
def noX (_ : Ex) (_ : Env) (_ : H) : Prop := False
/-- The rounds of a range over a function that yields what is known: each begins with the slots as they were; the heap goes on. -/
def roundsQ (A B : PostX → Env → H → Prop) (own : List Nat) (ps : List Nat) (env : Env) (done : H → Prop) (stop : Ex → H → Prop) : List Step → H → Prop
  | [], h => done h
  | s :: ss, h => s.2.length = ps.length ∧ A (thenQ (B (roundK (updH s.1 h) own (roundsQ A B own ps env done stop ss) stop)) noX) (putAll ps s.2 (demEnv env)) (updH s.1 h)

def hasLabel (l : Nat) : Code → Bool
  | .seq a b => hasLabel l a || hasLabel l b
  | .label l' => l' == l
  | _ => false

mutual
/-- What holds of whatever a code comes to. -/
def wp (c : Code) (Q : PostX) (env : Env) (h : H) : Prop :=
  match c with
  | .skip => Q .normal env h
  | .label _ => Wk h (Q .normal) env h
  | .region _ ops draw =>
    if draw then evalDraw ty C n tk ops.toList (regQ keep Q) (panQ Q) env h
    else match inPl ops.toList with
      | none => evalOps ty C n tk ops.toList ops.toList (regQ keep Q) (panQ Q) env h
      | some (i, j, d, _) => sortK n i j d (regQ keep Q) env h
  | .seq a b => wp a (thenQ (wp b Q) Q) env h
  | .cond c a b => match ev ty env 0 c with | .bool t => if t = true then wp a (wkQ h Q) env h else wp b (wkQ h Q) env h | _ => False
  | .block id b => wp b (blockQ h id Q) env h
  | .loop b => ∀ I : Env → H → Prop, (∀ env' h', wp b (thenQ (Wk h I) Q) env' h' → I env' h') → Wk h I env h
  | .exit id => Q (.exit id) env h
  | .goto l => Q (.goto l) env h
  | .ret => Q .ret env h
  | .scope b => ∀ J : Nat → Env → H → Prop, (∀ l env' h', wpAt b l (scopeQ h b J Q) env' h' → J l env' h') → wp b (scopeQ h b J Q) env h
  | .rangeFunc g ps x y => Wk h (fun env h => ∃ f caps, ev ty env 0 g = .func (.func f) [] caps ∧ (noDefC x && noDefC y && ps.toList.all fun p => Nat.blt p n) = true ∧
    C (1000000 + f) caps h fun o h' => ∃ own ss, o = .steps own ss ∧ h' = h ∧ roundsQ (fun Q env h => wp x Q env h) (fun Q env h => wp y Q env h) own ps.toList env (Q .normal env) (fun e => Q e env) ss h) env h
  | .refuse _ => False
/-- .. of a code from its label l on. -/
def wpAt (c : Code) (l : Nat) (Q : PostX) (env : Env) (h : H) : Prop :=
  match c with
  | .seq a b => if hasLabel l a then wpAt a l (thenQ (wp b Q) Q) env h else wpAt b l Q env h
  | .label l' => l' = l ∧ Q .normal env h
  | _ => False
end

end

/-- A range over a function, from the state that it begins with. -/
def RangeQ (ty : Nat → Ty) (C : CallP) (n : Nat) (keep tk : List Nat) (g : Operand) (ps : Array Tmp) (x y : Code) (Q : PostX) (env : Env) (h : H) : Prop :=
  ∃ f caps, ev ty env 0 g = .func (.func f) [] caps ∧ (noDefC x && noDefC y && ps.toList.all fun p => Nat.blt p n) = true ∧
    C (1000000 + f) caps h fun o h' => ∃ own ss, o = .steps own ss ∧ h' = h ∧ roundsQ (wp ty C n keep tk x) (wp ty C n keep tk y) own ps.toList env (Q .normal env) (fun e => Q e env) ss h

section
variable (P : Program) (ty : Nat → Ty) (prim : CallP)

def initEnv (keep : List Nat) (args : List V) : Env := keep.map fun i => (i, args.getD i .top)

def resultOne (r : ResultVar) (env : Env) (h : H) : Option V :=
  match r with
  | .tmp t => some (env.get t)
  | .cell a t =>
    match env.get a with
    | .ref id off => (match h.row id with | some cs => if off + (ty t).size ≤ cs.length ∧ 0 < (ty t).size then some ((ty t).val (((cs.drop off).take (ty t).size).map V.demote)) else none | none => none)
    | _ => none
def resultAll (rs : List ResultVar) (env : Env) (h : H) : Option (List V) :=
  match rs with
  | [] => some []
  | r :: rs => match resultOne ty r env h, resultAll rs env h with | some v, some vs => some (v.demote :: vs) | _, _ => none
def results (rs : List ResultVar) (env : Env) (h : H) : Option V :=
  match rs with
  | [r] => resultOne ty r env h
  | rs => (match resultAll ty rs env h with | some vs => some (.tup vs) | none => none)

/-- What is handed back: a row of the call's own that is seen through a slice becomes a list. -/
def handed (h : H) (m : Nat) : V → V
  | .msl id off len 1 => (match h.row id with | some cs => if off + len ≤ cs.length ∧ m ≤ id then .sl 1 (((cs.drop off).take len).map V.demote) else .top | none => .top)
  | v => v

/-- The call's own objects go. -/
def leaveQ (h0 h : H) (v : V) (Q : Out → H → Prop) : Prop :=
  h0.length ≤ h.length ∧ V.Cl h0.length (handed h h0.length v) ∧ (h.take h0.length = h0 ∨ ∀ (i : Nat) (o : AObj), (h.take h0.length)[i]? = some o → AObj.Cl h0.length o ∨ h0[i]? = some o) ∧ Q (.ret (handed h h0.length v)) (h.take h0.length)
/-- Two objects of one kind: what the second has that the first has not names no object. -/
def AObj.Like : AObj → AObj → Prop
  | .cells t cs, .cells t' cs' => t' = t ∧ cs'.length = cs.length ∧ ∀ x ∈ cs', V.Cl 0 x ∨ x ∈ cs
  | .map es, .map es' => ∀ k v, (k, v) ∈ es' → (V.Cl 0 k ∧ V.Cl 0 v) ∨ (k, v) ∈ es
  | o, o' => o' = o
/-- What a panic leaves: some objects may have turned. -/
def Thrown (ids : List Nat) (h h' : H) : Prop := h'.length = h.length ∧ ∀ (i : Nat) (o : AObj), h[i]? = some o → ∃ o', h'[i]? = some o' ∧ (o' = o ∨ (i ∈ ids ∧ AObj.Like o o'))
/-- .. at a panic. -/
def leaveP (h0 h : H) (v : V) (Q : Out → H → Prop) : Prop :=
  h0.length ≤ h.length ∧ V.Cl h0.length v ∧ (h.take h0.length = h0 ∨ (∀ (i : Nat) (o : AObj), (h.take h0.length)[i]? = some o → AObj.Cl h0.length o ∨ h0[i]? = some o) ∨ ∃ ids, Thrown ids h0 (h.take h0.length)) ∧ Q (.panic v) (h.take h0.length)
def retQ (rs : List ResultVar) (trunc : Bool) (h0 : H) (Q : Out → H → Prop) (e : Ex) (env : Env) (h : H) : Prop :=
  match e with
  | .normal | .ret => (match results ty rs env h with | some v => ∃ v', V.Le v v' ∧ (if trunc then leaveQ h0 h v' Q else Q (.ret v') h) | none => False)
  | .panic v => if trunc then leaveP h0 h v Q else Q (.panic v) h
  | _ => False

/-- A call of a function by its body. -/
def body (C : CallP) (f : FuncId) (args : List V) (h : H) (Q : Out → H → Prop) : Prop :=
  ∃ fn c keep tk trunc, P.funcs[f]? = some fn ∧ (fn.name == "runtime.NumGoroutine") = false ∧ fn.body = some c ∧ args.length ≤ fn.ntmps ∧
    wp ty C fn.ntmps keep tk c (retQ ty fn.results.toList trunc h Q) (initEnv keep (args.map V.demote)) h

def closeQ (K : H → Prop) (e : Ex) (env : Env) (h : H) : Prop :=
  match e with
  | .normal | .ret => K h
  | _ => False
/-- What a deferred closure comes to that asks first what has been panicked: nothing, or this. -/
def closeC (C : CallP) (k : FuncId) (caps : List V) (pv : V) (h : H) (K : H → Prop) : Prop :=
  ∃ fn id o1 o2 rest keep tk r x, P.funcs[k]? = some fn ∧ (fn.name == "runtime.NumGoroutine") = false ∧ fn.body = some (.seq (.region id #[o1, o2] false) rest) ∧
    (o1.dst = some r ∧ o1.op = .call { callee := .builtin .recover, args := #[], argTypes := #[] } ∧ o1.guard = none) ∧ (o2.dst = some x ∧ o2.op = .assign (.tmp r) ∧ o2.guard = none) ∧ fn.results = #[] ∧ caps.length ≤ fn.ntmps ∧ r < fn.ntmps ∧ (x < fn.ntmps ∧ noRangeC rest = true) ∧
    wp ty C fn.ntmps keep tk rest (closeQ K) (((initEnv keep (caps.map V.demote)).put r .top).put x pv) h
/-- The function value of a deferred call without arguments. -/
def defOp (o : Oper) : Option Operand :=
  match o.op, o.guard, o.dst with
  | .defer { callee := .value f, args := ⟨[]⟩, argTypes := _ }, none, none => some f
  | _, _, _ => none
/-- A region whose last operation is a deferred call: the ones ahead, the function. -/
def lastDefer : List Oper → Option (List Oper × Operand)
  | [] => none
  | [o] => (defOp o).map fun f => ([], f)
  | o :: os => (lastDefer os).map fun (l, f) => (o :: l, f)
/-- A code in which a call is deferred, once, on the way. -/
def wpD (C : CallP) (n : Nat) (keep tk : List Nat) (c : Code) (Q : PostX) (QD : FuncId → List V → PostX) : Env → H → Prop :=
  match c with
  | .seq x y =>
    match x with
    | .region _ ops false =>
      match lastDefer ops.toList with
      | some (os, f) => evalOps ty C n tk ops.toList os (fun env h => ∃ k cap, ev ty env 0 f = .func (.func k) [] cap ∧ wp ty C n keep tk y (QD k cap) (env.keep keep) h) (panQ Q)
      | none => wp ty C n keep tk x (thenQ (wpD C n keep tk y Q QD) Q)
    | x => wp ty C n keep tk x (thenQ (wpD C n keep tk y Q QD) Q)
  | c => wp ty C n keep tk c Q
/-- A call of a function that defers a closure. -/
def bodyD (C : CallP) (f : FuncId) (args : List V) (h : H) (Q : Out → H → Prop) : Prop :=
  ∃ fn c keep tk trunc, P.funcs[f]? = some fn ∧ (fn.name == "runtime.NumGoroutine") = false ∧ fn.body = some c ∧ (args.length ≤ fn.ntmps ∧ noRangeC c = true) ∧
    wpD ty C fn.ntmps keep tk c (retQ ty fn.results.toList trunc h Q) (fun k cap e env h' =>
      match e with
      | .normal | .ret => closeC P ty C k cap .nili h' (retQ ty fn.results.toList trunc h Q .ret env)
      | .panic v => closeC P ty C k cap v h' (retQ ty fn.results.toList trunc h Q .ret env)
      | _ => False) (initEnv keep (args.map V.demote)) h

/-- What hangs on no memory. -/
inductive V.Flat : V → Prop
  | bool (b : Bool) : V.Flat (.bool b)
  | int (k : IntKind) (n : Int) : V.Flat (.int k n)
  | str (l : List UInt8) : V.Flat (.str l)
  | agg (xs : List V) (h : ∀ x, x ∈ xs → V.Flat x) : V.Flat (.agg xs)
  | tup (xs : List V) (h : ∀ x, x ∈ xs → V.Flat x) : V.Flat (.tup xs)
/-- An argument as it is, or a bare value that an object's row is known to be: lent for one call. -/
def Lent (h : H) (a a' : V) : Prop :=
  a' = a ∨ ∃ (u : Value) (e sz : Nat) (xs : List V) (id t : Nat) (cs : List V) (j : Nat), a = .raw u ∧ a' = .sl sz xs ∧ h[id]? = some (AObj.cells t cs) ∧ cs[j]? = some (V.pri (some u) e sz xs)
/-- A call that is lent rows: it hands back what hangs on no memory. -/
def lend (C : CallP) (f : FuncId) (args : List V) (h : H) (Q : Out → H → Prop) : Prop :=
  ∃ args' v, args'.length = args.length ∧ (∀ (i : Nat) (a a' : V), args[i]? = some a → args'[i]? = some a' → Lent h a a') ∧ (∀ a ∈ args', V.Cl 0 a) ∧ V.Flat v ∧ C f args' [] (fun r _ => r = .ret v) ∧ Q (.ret v) h

/-- A call. -/
def ACall (f : FuncId) (args : List V) (h : H) (Q : Out → H → Prop) : Prop :=
  ∀ C : CallP, (∀ f args h Q, body P ty C f args h Q ∨ prim f args h Q ∨ (∃ args', LLe args args' ∧ C f args' h Q) ∨ lend C f args h Q ∨ bodyD P ty C f args h Q → C f args h Q) → C f args h Q

end
end Go.Proofs.YtmjohmefhikelaaDoor.Pv
