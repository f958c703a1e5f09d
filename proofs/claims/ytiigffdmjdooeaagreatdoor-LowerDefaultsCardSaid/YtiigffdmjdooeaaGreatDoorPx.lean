/- The operations, with Booleans in place of conditions: printed by mkb.py out of the evaluator's own text. The operations with Booleans say the same as those with conditions. One operation, with Booleans. A run that reckons: values compared, values that name no object. A region that draws its order, in which one load or one call moves or changes things: printed by mkm.py out of PwS's own text. A region that draws its order, in which several operations, each behind the last, change the heap: printed by mkn.py. A run that reckons: operations, regions, code; what it comes to holds of the evaluator. A run that reckons: calls, deferred closures. -/
import Derived.Test.YtiigffdmjdooeaaGreatDoorPwDf
import Derived.Test.YtiigffdmjdooeaaGreatDoorPwS
set_option linter.unusedVariables false
set_option linter.unusedSimpArgs false
set_option maxHeartbeats 4000000
namespace Go.Proofs.YtiigffdmjdooeaaGreatDoor.Pv
open Go
noncomputable section
def getL (e : Env) (i : Nat) : V := List.rec (motive := fun _ => V) .top (fun p _ ih => Bool.rec (motive := fun _ => V) ih p.2 (Nat.beq i p.1)) e
def getT (b t : Env) (i : Nat) : V := List.rec (motive := fun _ => V) (getL b i) (fun p _ ih => Bool.rec (motive := fun _ => V) ih p.2 (Nat.beq i p.1)) t
theorem getL_nil (i : Nat) : getL [] i = .top := rfl
theorem getL_cons (j : Nat) (u : V) (r : Env) (i : Nat) : getL ((j, u) :: r) i = match Nat.beq i j with | true => u | false => getL r i := by
  show _ = _
  cases h : Nat.beq i j <;> simp [getL, h]
theorem getT_cons (b : Env) (j : Nat) (u : V) (r : Env) (i : Nat) : getT b ((j, u) :: r) i = match Nat.beq i j with | true => u | false => getT b r i := by
  show _ = _
  cases h : Nat.beq i j <;> simp [getT, h]
theorem beq_no0 {i j : Nat} (e : ¬ i = j) : Nat.beq i j = false := by
  cases hb : Nat.beq i j with
  | false => rfl
  | true => exact absurd (Nat.eq_of_beq_eq_true hb) e
theorem getL_eq : ∀ (env : Env) (i : Nat), getL env i = env.get i
  | [], i => rfl
  | (j, u) :: r, i => by
    rw [getL_cons]
    by_cases e : i = j
    · subst e; rw [Nat.beq_refl]; simp [Env.get]
    · rw [beq_no0 e]
      simp only [Env.get, if_neg e, getL_eq r i]
/-- The slots: those that the region at hand has written, the last one first, and those that were there ahead of it. -/
inductive EnvX where
  | mk (t b : Env)
def EnvX.toE : EnvX → Env
  | .mk t b => t.foldr (fun p e => e.put p.1 p.2) b
def EnvX.of (b : Env) : EnvX := .mk [] b
theorem EnvX.of_toE (b : Env) : (EnvX.of b).toE = b := rfl
def EnvX.put : EnvX → Nat → V → EnvX
  | .mk t b, i, v => .mk ((i, v) :: t) b
theorem EnvX.put_toE (x : EnvX) (i : Nat) (v : V) : (x.put i v).toE = x.toE.put i v := by cases x; rfl
def getF : EnvX → Nat → V
  | .mk t b, i => getT b t i
theorem getF_eq (x : EnvX) (i : Nat) : getF x i = x.toE.get i := by
  obtain ⟨t, b⟩ := x
  show getT b t i = _
  induction t with
  | nil => exact getL_eq b i
  | cons p r ih =>
    obtain ⟨j, u⟩ := p
    rw [getT_cons]
    show _ = (Env.put (EnvX.toE (.mk r b)) j u).get i
    by_cases e : i = j
    · subst e; rw [Nat.beq_refl, get_put_self]
    · rw [beq_no0 e, get_put_ne e]; exact ih
def evF (ty : Nat → Ty) (env : EnvX) (t : Nat) : Operand → V
  | .tmp i => (getF env i).demote
  | .const v => constV ty t v
  | .func f => .func (.func f) [] []
  | .global _ => .top
theorem evF_eq (ty : Nat → Ty) (env : EnvX) : evF ty env = ev ty env.toE := by
  funext t x
  cases x <;> simp [evF, ev, getF_eq]
inductive ResX where
  | val (p : Bool) (v : V) (env : EnvX) (h : H)
  | call (f : FuncId) (args : List V)
  | pan (v : V)
  | each (f : Value → ResX)
  | bad
inductive R1X where
  | ok (p : Bool) (v : V)
  | bad
def R1X.res (r : R1X) (env : EnvX) (h : H) : ResX :=
  match r with
  | .ok p v => .val p v env h
  | .bad => .bad
def R1X.up : R1X → R1
  | .ok p v => .ok (p = true) v
  | .bad => .bad
def ResX.up : ResX → Res
  | .val p v env h => .val (p = true) v env.toE h
  | .call f args => .call f args
  | .pan v => .pan v
  | .each f => .each fun u => (f u).up
  | .bad => .bad
theorem R1X.res_up (r : R1X) (env : EnvX) (h : H) : (r.res env h).up = r.up.res env.toE h := by cases r <;> rfl
instance (n b : Nat) : Decidable (room n b) := by unfold room; infer_instance

def K.isStr : K → Bool
  | .str => true
  | _ => false
theorem K.isStr_iff (k : K) : (k.isStr = true) = (k = .str) := by cases k <;> simp [K.isStr]
section
variable (ty : Nat → Ty)

def intOpX (op : BinOp) (k : IntKind) (a b : Int) : R1X :=
  match op with
  | .add => .ok (decide True) (.int k (k.wrap (a + b)))
  | .sub => .ok (decide True) (.int k (k.wrap (a - b)))
  | .mul => .ok (decide True) (.int k (k.wrap (a * b)))
  | .quo => .ok (decide (b ≠ 0)) (.int k (k.wrap (a.tdiv b)))
  | .rem => .ok (decide (b ≠ 0)) (.int k (a.tmod b))
  | .and => .ok (decide True) (.int k (bitsV .and k a b))
  | .or => .ok (decide True) (.int k (bitsV .or k a b))
  | .xor => .ok (decide True) (.int k (bitsV .xor k a b))
  | .andNot => .ok (decide True) (.int k (bitsV .andNot k a b))
  | .eql => .ok (decide True) (.bool (decide (a = b)))
  | .neq => .ok (decide True) (.bool (!decide (a = b)))
  | .lss => .ok (decide True) (.bool (decide (a < b)))
  | .leq => .ok (decide True) (.bool (decide (a ≤ b)))
  | .gtr => .ok (decide True) (.bool (decide (b < a)))
  | .geq => .ok (decide True) (.bool (decide (b ≤ a)))
  | _ => .bad
def shiftOpX (op : BinOp) (k : IntKind) (a b : Int) : R1X :=
  match op with
  | .shl => .ok (decide (0 ≤ b)) (.int k (k.wrap (a * 2 ^ (min b.toNat k.bits))))
  | .shr => .ok (decide (0 ≤ b)) (.int k (a.fdiv (2 ^ (min b.toNat k.bits))))
  | _ => .bad
def strOpX (op : BinOp) (a b : List UInt8) : R1X :=
  match op with
  | .add => .ok (decide (a.length + b.length ≤ 4611686018427387904)) (.str (a ++ b))
  | .eql => .ok (decide True) (.bool (decide (a = b)))
  | .neq => .ok (decide True) (.bool (!decide (a = b)))
  | .lss => .ok (decide True) (.bool (Op.bytesLess a b))
  | .leq => .ok (decide True) (.bool (Op.bytesLess a b || decide (a = b)))
  | .gtr => .ok (decide True) (.bool !(Op.bytesLess a b || decide (a = b)))
  | .geq => .ok (decide True) (.bool !(Op.bytesLess a b))
  | _ => .bad
def fltOpX (op : BinOp) (k : FloatKind) (a b : Nat) : R1X :=
  match op with
  | .eql => .ok (decide True) (.bool (k.format.order a b == some .eq))
  | .neq => .ok (decide True) (.bool (k.format.order a b != some .eq))
  | .lss => .ok (decide True) (.bool (k.format.order a b == some .lt))
  | .leq => .ok (decide True) (.bool (k.format.order a b == some .lt || k.format.order a b == some .eq))
  | .gtr => .ok (decide True) (.bool (k.format.order a b == some .gt))
  | .geq => .ok (decide True) (.bool (k.format.order a b == some .gt || k.format.order a b == some .eq))
  | _ => .bad
def binOpX (op : BinOp) (x y : V) : R1X :=
  match x, y with
  | .int k a, .int k' b => if isShift op then shiftOpX op k a b else if k = k' then intOpX op k a b else .bad
  | .str a, .str b => strOpX op a b
  | .flt k a, .flt k' b => if k = k' then fltOpX op k a b else .bad
  | _, _ => .bad
def binOpTX (op : BinOp) (t : Nat) (c : Bool) (x y : V) : R1X :=
  match op, (ty t).k, x, y with
  | .eql, .bool, .bool a, .bool b => .ok (decide True) (.bool (a == b))
  | .neq, .bool, .bool a, .bool b => .ok (decide True) (.bool (!(a == b)))
  | .eql, .iface, .iface _ _, .nili => .ok (decide True) (.bool false)
  | .neq, .iface, .iface _ _, .nili => .ok (decide True) (.bool true)
  | .eql, .iface, .nili, .nili => if c then .ok (decide True) (.bool true) else .bad
  | .neq, .iface, .nili, .nili => if c then .ok (decide True) (.bool false) else .bad
  | .eql, .ptr _, .nilp, .nilp => .ok (decide True) (.bool true)
  | .neq, .ptr _, .nilp, .nilp => .ok (decide True) (.bool false)
  | .eql, .ptr _, .ref _ _, .nilp => .ok (decide True) (.bool false)
  | .neq, .ptr _, .ref _ _, .nilp => .ok (decide True) (.bool true)
  | .eql, .ptr _, .imm _, .nilp => .ok (decide True) (.bool false)
  | .neq, .ptr _, .imm _, .nilp => .ok (decide True) (.bool true)
  | _, _, _, _ => binOpX op x y
def unOpX (op : UnOp) (x : V) : R1X :=
  match op, x with
  | .not, .bool b => .ok (decide True) (.bool (!b))
  | .neg, .int k n => .ok (decide True) (.int k (k.wrap (0 - n)))
  | .xor, .int k n => .ok (decide True) (.int k (bitsV .xor k (if k.signed then -1 else k.max) n))
  | _, _ => .bad
def strOfX (p : Bool) (o : Option (List UInt8)) : R1X := match o with | some l => .ok (decide p) (.str l) | none => .bad
def toIntX (k : IntKind) (x : Option Int) : R1X := .ok (decide (Option.isSome x = true ∧ k.min ≤ x.getD 0 ∧ x.getD 0 ≤ k.max)) (.int k (x.getD 0))
def convertX (src dst : Nat) (x : V) (h : H) : R1X :=
  match (ty src).k, (ty dst).k, x with
  | .int _, .int k, .int _ n => .ok (decide True) (.int k (k.wrap n))
  | .str, .str, .str s => .ok (decide True) (.str s)
  | .int _, .str, .int _ n => .ok (decide True) (.str (Utf8.encode n).data.toList)
  | .slice e, .str, .sl 1 xs => if (ty e).k.isU8 then strOfX (decide True) (toBytes xs) else .bad
  | .slice e, .str, .nils _ _ => if (ty e).k.isU8 then .ok (decide True) (.str []) else .bad
  | .slice e, .str, .msl id off len 1 =>
    if (ty e).k.isU8 then (match h.row id with | some cs => strOfX (decide (off + len ≤ cs.length)) (toBytes ((cs.drop off).take len)) | none => .bad) else .bad
  | .str, .slice e, .str s => if (ty e).k.isU8 then .ok (decide True) (.sl 1 (s.map byteV)) else .bad
  | .int _, .flt k, .int _ n => .ok (decide True) (.flt k (k.nearest n))
  | .flt _, .int k, .flt s b => toIntX k ((s.decode b).toInt .zero)
  | _, _, _ => .bad
def fillX (place : Nat → Option (Nat × Nat × Nat)) (env : EnvX) : List (Nat × Operand) → Bool → List V → Option (Bool × List V)
  | [], p, cs => some (p, cs)
  | (i, x) :: rest, p, cs =>
    match place i with
    | none => none
    | some (off, size, t) =>
      fillX place env rest (decide (p ∧ (evF ty env t x).cells.length = size ∧ 0 < size ∧ (evF ty env t x).cells.all V.plain = true ∧ off + size ≤ cs.length)) (splice cs off (evF ty env t x).cells)
def loadNX (c : V) (p : Bool) (env : EnvX) (h : H) (k : V → H) : ResX :=
  match c with
  | .pri _ e sz xs => .each fun u => .val (decide p) (.raw u) env (k (.pri (some u) e sz xs))
  | c => .val (decide p) c.demote env h
def loadX (t : Nat) (tk ln : Bool) (p : V) (env : EnvX) (h : H) : ResX :=
  match p with
  | .imm cs => .val (decide ((ty t).size ≤ cs.length ∧ 0 < (ty t).size)) ((ty t).val (cs.take (ty t).size)) env h
  | .ref id off =>
    match h.row id with
    | some cs =>
      if (ty t).agg then .val (decide (off + (ty t).size ≤ cs.length ∧ 0 < (ty t).size)) (.agg (((cs.drop off).take (ty t).size).map V.demote)) env h
      else if tk then .val (decide (off < cs.length ∧ (ty t).size = 1)) (cs.getD off .top) env (h.set id (.cells (h.ety id) (cs.set off (cs.getD off .top).left)))
      else if ln then .val (decide (off < cs.length ∧ (ty t).size = 1)) (cs.getD off .top).lenOf env h
      else loadNX (cs.getD off .top) (decide (off < cs.length ∧ (ty t).size = 1)) env h fun c => h.set id (.cells (h.ety id) (cs.set off c))
    | none => .bad
  | _ => .bad
def storeX (t : Nat) (p x : V) (env : EnvX) (h : H) : ResX :=
  match p with
  | .ref id off =>
    match h.row id with
    | some cs =>
      .val (decide (x.cells.length = (ty t).size ∧ 0 < (ty t).size ∧ off + (ty t).size ≤ cs.length ∧ x.cells.all V.plain = true)) .top env (h.set id (.cells (h.ety id) (splice cs off (x.cells.map V.toOwn))))
    | none => .bad
  | _ => .bad
def appendX (t : Nat) (s x : V) : R1X :=
  match (ty t).k, s, x with
  | .slice e, .own e' sz xs, .sl sz' ys => .ok (decide ((e' = e ∧ sz = (ty e).size) ∧ (sz' = (ty e).size ∧ 0 < sz') ∧ room (xs.length + ys.length) (ty e).bytes)) (.own e' sz (xs ++ ys))
  | .slice e, .cap sz xs, .sl sz' ys => .ok (decide (sz = (ty e).size ∧ (sz' = (ty e).size ∧ 0 < sz') ∧ ys ≠ [] ∧ room (xs.length + ys.length) (ty e).bytes)) (.own e sz (xs ++ ys))
  | .slice e, .own e' sz xs, .nils _ _ => .ok (decide (e' = e ∧ (sz = (ty e).size ∧ 0 < (ty e).size) ∧ room (xs.length + 0) (ty e).bytes)) (.own e' sz xs)
  | .slice e, .pri _ e' sz xs, .sl sz' ys => .ok (decide ((e' = e ∧ sz = (ty e).size) ∧ (sz' = (ty e).size ∧ 0 < sz') ∧ room (xs.length + ys.length) (ty e).bytes)) (.pri none e' sz (xs ++ ys))
  | .slice e, .own e' sz xs, .str s => .ok (decide ((e' = e ∧ sz = (ty e).size) ∧ ((ty e).size = 1 ∧ (ty e).bytes = 1) ∧ room (xs.length + s.length) 1)) (.own e' sz (xs ++ s.map byteV))
  | _, _, _ => .bad
def hiBX (x : Option V) (most : Nat) : Option (Bool × Nat) :=
  match x with
  | none => some (decide True, most)
  | some (.int _ i) => some (decide (0 ≤ i ∧ i ≤ most), i.toNat)
  | _ => none
def loBX (x : Option V) (most : Nat) : Option (Bool × Nat) :=
  match x with
  | none => some (decide True, 0)
  | some (.int _ i) => some (decide (0 ≤ i ∧ i ≤ most), i.toNat)
  | _ => none
def boundsX (lo hi : Option V) (len : Nat) : Option (Bool × Nat × Nat) :=
  match hiBX hi len with
  | some (p, h) => (match loBX lo h with | some (q, l) => some (decide (p ∧ q), l, h) | none => none)
  | none => none
def withBX (b : Option (Bool × Nat × Nat)) (f : Nat → Nat → V) (q : Bool) : R1X :=
  match b with
  | some (p, l, h) => .ok (decide (p ∧ q)) (f l h)
  | none => .bad
def sliceX (t : Nat) (x : V) (lo hi : Option V) : R1X :=
  match (ty t).k, x with
  | .str, .str s => withBX (boundsX lo hi s.length) (fun l h => .str ((s.take h).drop l)) (decide (True))
  | .slice e, .sl sz xs => withBX (boundsX lo hi xs.length) (fun l h => .sl sz ((xs.take h).drop l)) (decide (sz = (ty e).size ∧ 0 < sz))
  | .slice e', .nils e sz => withBX (boundsX lo hi 0) (fun _ _ => .nils e sz) (decide (0 < (ty e').size))
  | .slice e, .msl id off len sz => withBX (boundsX lo hi len) (fun l h => .msl id (off + l * sz) (h - l) sz) (decide (sz = (ty e).size ∧ 0 < sz))
  | .arr n e, .ref id off => withBX (boundsX lo hi n) (fun l h => .msl id (off + l * (ty e).size) (h - l) (ty e).size) (decide (0 < (ty e).size))
  | _, _ => .bad
def cutX (t : Nat) (i : Nat) (v : V) (lo hi : Option V) (env : EnvX) (h : H) : ResX :=
  match (ty t).k, v, lo with
  | .slice e, .pri _ e' sz xs, none =>
    (match hiBX hi xs.length with
    | some (p, k) => .val (decide (p ∧ e' = e ∧ sz = (ty e).size ∧ 0 < sz)) (.pri none e' sz (xs.take k)) (env.put i .top) h
    | none => .bad)
  | .slice e, .own e' sz [], none =>
    (match hiBX hi 0 with
    | some (p, k) => .val (decide (p ∧ e' = e ∧ sz = (ty e).size ∧ 0 < sz)) (.own e' sz []) (env.put i .top) h
    | none => .bad)
  | .slice e, .own e' sz xs, some (.int _ l) =>
    (match hi with
    | none => .val (decide ((0 ≤ l ∧ l ≤ xs.length) ∧ e' = e ∧ sz = (ty e).size ∧ 0 < sz)) (.own e' sz (xs.drop l.toNat)) (env.put i .top) h
    | some _ => .bad)
  | _, _, _ => .bad
def slice3X (t : Nat) (x : V) (lo hi : Option V) (m : V) : R1X :=
  match (ty t).k, x, hi, m with
  | .slice e, .sl sz xs, some (.int _ a), .int _ b => if a = b then withBX (boundsX lo (some (.int .i64 a)) xs.length) (fun l h => .cap sz ((xs.take h).drop l)) (decide (sz = (ty e).size ∧ 0 < sz)) else .bad
  | _, _, _, _ => .bad
def sliceNilX (op : BinOp) (t : Nat) (c : Bool) (x y : V) (env : EnvX) (h : H) : Option ResX :=
  match op, (ty t).k, x, y with
  | .eql, .slice _, .sl _ xs, .nils _ _ => if c = true then some (.each fun u => .val (decide True) (.bool (nilB false xs u)) env h) else none
  | .neq, .slice _, .sl _ xs, .nils _ _ => if c = true then some (.each fun u => .val (decide True) (.bool (nilB true xs u)) env h) else none
  | _, _, _, _ => none
def indexAddrX (t : Nat) (x i : V) : R1X :=
  match (ty t).k, x, i with
  | .slice e, .sl sz xs, .int _ n => .ok (decide ((0 ≤ n ∧ n < xs.length) ∧ sz = (ty e).size)) (.imm (xs.getD n.toNat .top).cells)
  | .slice e, .msl id off len sz, .int _ n => .ok (decide ((0 ≤ n ∧ n < len) ∧ sz = (ty e).size ∧ 0 < sz)) (.ref id (off + n.toNat * sz))
  | .arr m e, .ref id off, .int _ n => .ok (decide ((0 ≤ n ∧ n < m) ∧ 0 < (ty e).size)) (.ref id (off + n.toNat * (ty e).size))
  | _, _, _ => .bad
def indexX (t : Nat) (x i : V) : R1X :=
  match (ty t).k, x, i with
  | .str, .str s, .int _ n => .ok (decide (0 ≤ n ∧ n < s.length)) (byteV (s.getD n.toNat 0))
  | .arr m e, .agg cs, .int _ n => .ok (decide ((0 ≤ n ∧ n < m) ∧ n.toNat * (ty e).size + (ty e).size ≤ cs.length ∧ 0 < (ty e).size)) ((ty e).val ((cs.drop (n.toNat * (ty e).size)).take (ty e).size))
  | _, _, _ => .bad
def lenVX (t : Nat) (x : V) (h : H) : R1X :=
  match (ty t).k, x with
  | .str, .str s => .ok (decide True) (.int .i64 s.length)
  | .slice _, .sl _ xs => .ok (decide True) (.int .i64 xs.length)
  | .slice _, .nils _ _ => .ok (decide True) (.int .i64 0)
  | .slice _, .slen n => .ok (decide True) (.int .i64 n)
  | .slice _, .msl _ _ len _ => .ok (decide True) (.int .i64 len)
  | .arr n _, _ => .ok (decide True) (.int .i64 n)
  | .map _ _, .nilm => .ok (decide True) (.int .i64 0)
  | .map _ _, .map id => (match h[id]? with | some (.map es) => .ok (decide True) (.int .i64 es.length) | _ => .bad)
  | _, _ => .bad
def buildOkX (t : Nat) : Bool :=
  match (ty t).k with
  | .struct _ => decide (True)
  | .arr _ e => decide (0 < (ty e).size)
  | _ => decide (False)
def minVX (x y : V) : R1X := match x, y with | .int k a, .int _ b => .ok (decide True) (.int k (if b < a then b else a)) | _, _ => .bad
def maxVX (x y : V) : R1X := match x, y with | .int k a, .int _ b => .ok (decide True) (.int k (if a < b then b else a)) | _, _ => .bad
def cpxVX (x y : V) : R1X := match x, y with | .flt k a, .flt k' b => if k = k' then .ok (decide True) (.cpx k a b) else .bad | _, _ => .bad
def realVX (x : V) : R1X := match x with | .cpx k a _ => .ok (decide True) (.flt k a) | _ => .bad
def imagVX (x : V) : R1X := match x with | .cpx k _ b => .ok (decide True) (.flt k b) | _ => .bad
def builtinX (b : Builtin) (argTypes : List Nat) (args : List Operand) (env : EnvX) (h : H) : ResX :=
  match b, argTypes, args with
  | .len, [t], [x] => (lenVX ty t (evF ty env t x) h).res env h
  | .append, [t, t'], [.tmp s, x] => if appT ty t t' (evF ty env t x) = true then (appendX ty t (getF env s).asOwn (evF ty env t x)).res (env.put s (getF env s).demote) h else .bad
  | .append, [t, t'], [.const c, x] => if appT ty t t' (evF ty env t x) = true then (appendX ty t (constV ty t c).asOwn (evF ty env t x)).res env h else .bad
  | .min, [t, t'], [x, y] => (minVX (evF ty env t x) (evF ty env t' y)).res env h
  | .max, [t, t'], [x, y] => (maxVX (evF ty env t x) (evF ty env t' y)).res env h
  | .complex, [t, t'], [x, y] => (cpxVX (evF ty env t x) (evF ty env t' y)).res env h
  | .real, [t], [x] => (realVX (evF ty env t x)).res env h
  | .imag, [t], [x] => (imagVX (evF ty env t x)).res env h
  | _, _, _ => .bad
def rowAppX (b : Builtin) (argTypes : List Nat) (args : List Operand) (env : EnvX) (h : H) : ResX :=
  match b, argTypes, args with
  | .append, [t, t'], [.tmp s, x] =>
    (match (ty t).k, getF env s, evF ty env t x with
    | .slice e, .nils _ sz, .sl sz' ys => if t = t' ∧ looseT.contains e = true then .val (decide ((sz' = (ty e).size ∧ 0 < sz') ∧ ys ≠ [] ∧ (ys.flatMap V.cells).all V.plain = true ∧ room ys.length (ty e).bytes)) (.msl h.length 0 ys.length sz') env (h ++ [.cells e ((ys.flatMap V.cells).map V.toOwn)]) else .bad
    | _, _, _ => .bad)
  | _, _, _ => .bad
def pickVX (c a b : V) : R1X := match c with | .bool c => .ok (decide True) (if c = true then a else b) | _ => .bad
def lookupX (t : Nat) (c : Bool) (m k : V) (h : H) : R1X :=
  match (ty t).k, m, k with
  | .map kt et, .map id, .str s => (match h[id]? with
    | some (.map es) => .ok (decide ((ty kt).k.isStr = true ∧ textKeys es = true ∧ 0 < (ty et).size)) (lookV c (ty et) (mapGet s es))
    | _ => .bad)
  | .map kt et, .nilm, .str s => .ok (decide ((ty kt).k.isStr = true ∧ 0 < (ty et).size)) (lookV c (ty et) none)
  | _, _, _ => .bad
def updateX (t : Nat) (m k v : V) (env : EnvX) (h : H) : ResX :=
  match (ty t).k, m, k with
  | .map kt et, .map id, .str s => (match h[id]? with
    | some (.map es) => .val (decide ((ty kt).k.isStr = true ∧ textKeys es = true)) .top env (h.set id (.map (mapSet s v es)))
    | _ => .bad)
  | _, _, _ => .bad
def sliceOpX (moved : Bool) (t : Nat) (x : Operand) (lo hi : Option Operand) (env : EnvX) (h : H) : ResX :=
  match moved, x with
  | true, .tmp i => cutX ty t i (getF env i) (lo.map (evF ty env 0)) (hi.map (evF ty env 0)) env h
  | _, x => (sliceX ty t (evF ty env t x) (lo.map (evF ty env 0)) (hi.map (evF ty env 0))).res env h
def rangeOpX (t : Nat) (x : V) (env : EnvX) (h : H) : ResX :=
  match (ty t).k, x with
  | .str, .str s => .val (decide True) (.ref h.length 0) env (h ++ [.siter s 0])
  | .map _ _, .map id => (match h[id]? with
    | some (.map es) => (match keysOf es with
      | some ks => .val (decide True) (.ref h.length 0) env (h ++ [.miter id es.length ks none])
      | none => .bad)
    | _ => .bad)
  | _, _ => .bad
def nextMX (x : V) (env : EnvX) (h : H) : ResX :=
  match x with
  | .ref id 0 =>
    (match h[id]? with
    | some (.miter m n left _) => (match h[m]? with
      | some (.map es) => if es.length = n then (if left = [] then .val (decide True) (.tup [.bool false]) env h
        else .each fun u => .val (decide True) (.tup [.bool true, .str (left.getD (pickN left.length u) []), .top]) env (h.set id (.miter m n (left.eraseIdx (pickN left.length u)) (some (left.getD (pickN left.length u) []))))) else .bad
      | _ => .bad)
    | _ => .bad)
  | _ => .bad
def entryOpX (x : V) (env : EnvX) (h : H) : ResX :=
  match x with
  | .ref id 0 =>
    (match h[id]? with
    | some (.miter m n _ (some k)) => (match h[m]? with
      | some (.map es) => if es.length = n then .val (decide True) (.tup [.str k, .top]) env h else .bad
      | _ => .bad)
    | _ => .bad)
  | _ => .bad
def nextOpX (x : V) (env : EnvX) (h : H) : ResX :=
  match x with
  | .ref id 0 =>
    (match h[id]? with
    | some (.siter s pos) => .val (decide True) (nextT s pos) env (h.set id (.siter s (nextP s pos)))
    | _ => .bad)
  | _ => .bad
def aopX (tk : List Nat) (o : Oper) (env : EnvX) (h : H) : ResX :=
  match o.op with
  | .move (.tmp i) => if tkB tk o.dst && neD i o.dst then .val (decide True) (getF env i) (env.put i (getF env i).demote) h else .val (decide True) (getF env i).demote env h
  | .move x => .val (decide True) (evF ty env o.type x) env h
  | .assign (.tmp i) => if neD i o.dst then .val (decide True) (getF env i).toOwn (env.put i (getF env i).demote) h else .val (decide True) (getF env i).demote env h
  | .assign x => .val (decide True) (evF ty env o.type x).toOwn env h
  | .pick c a b => (pickVX (evF ty env 0 c) (evF ty env o.type a) (evF ty env o.type b)).res env h
  | .alloc t => .val (decide ((ty t).zero.all V.plain = true ∧ 0 < (ty t).size)) (.ref h.length 0) env (h ++ [.cells t ((ty t).zero.map V.toOwn)])
  | .box t x => .val (decide ((evF ty env t x).cells.all V.plain = true)) (.ref h.length 0) env (h ++ [.cells t ((evF ty env t x).cells.map V.toOwn)])
  | .build t parts => (match fillX ty (placeOf ty t) env parts.toList (decide (buildOkX ty t = true ∧ 0 < (ty t).size ∧ (ty t).zero.all V.plain = true)) (ty t).zero with | some (p, cs) => .val (decide p) (.agg cs) env h | none => .bad)
  | .buildSlice t n parts =>
    (match (ty t).k with
    | .slice el => (match fillX ty (placeOf ty t) env parts.toList (decide (n * (ty el).size ≤ 16777216 ∧ 0 < (ty el).size ∧ (ty el).zero.all V.plain = true)) (repl (ty el).zero n) with
      | some (p, cs) => .val (decide p) (if tkB tk o.dst = true then .own el (ty el).size (chunks (ty el) n cs) else .sl (ty el).size (chunks (ty el) n cs)) env h
      | none => .bad)
    | _ => .bad)
  | .load t a => loadX ty t (tkB tk o.dst) (lnB tk o.dst) (evF ty env 0 a) env h
  | .store t a (.tmp i) => storeX ty t (evF ty env 0 a) (getF env i) (env.put i (getF env i).demote) h
  | .store t a x => storeX ty t (evF ty env 0 a) (evF ty env t x) env h
  | .nilCheck x => (match evF ty env 0 x with | .ref id off => .val (decide True) (.ref id off) env h | .imm cs => .val (decide True) (.imm cs) env h | _ => .bad)
  | .binOp op t x y t' => (sliceNilX ty op t (isC x || isC y) (evF ty env t x) (evF ty env t' y) env h).getD ((binOpTX ty op t (isC x || isC y) (evF ty env t x) (evF ty env t' y)).res env h)
  | .unOp op t x => (unOpX op (evF ty env t x)).res env h
  | .convert s d x => (convertX ty s d (evF ty env s x) h).res env h
  | .makeInterface t x => (match (ty t).k with | .iface => .bad | .other => .bad | _ => .val (decide True) (.iface t (evF ty env t x)) env h)
  | .makeFunc (.func f) first cap => .val (decide (first.size = 0)) (.func (.func f) [] (cap.toList.map (evF ty env 0))) env h
  | .makeMap _ none => .val (decide True) (.map h.length) env (h ++ [.map []])
  | .makeSlice t l c =>
    (match (ty t).k, evF ty env 0 l, evF ty env 0 c with
    | .slice el, .int _ n, .int _ m => .val (decide ((0 ≤ n ∧ n = m) ∧ (ty el).zero.all V.plain = true ∧ 0 < (ty el).size ∧ (ty el).bytes * n ≤ 140737488355328 ∧ n ≤ 4611686018427387904))
      (.msl h.length 0 n.toNat (ty el).size) env (h ++ [.cells el (repl ((ty el).zero.map V.toOwn) n.toNat)])
    | _, _, _ => .bad)
  | .slice t x lo hi none => sliceOpX ty (tkB tk o.dst) t x lo hi env h
  | .slice t x lo hi (some m) => (slice3X ty t (evF ty env t x) (lo.map (evF ty env 0)) (hi.map (evF ty env 0)) (evF ty env 0 m)).res env h
  | .fieldAddr s x f =>
    (match fieldOf ty s f, evF ty env 0 x with
    | some (off, t), .ref id o => .val (decide (0 < (ty t).size)) (.ref id (o + off)) env h
    | some (off, t), .imm cs => .val (decide (0 < (ty t).size ∧ off + (ty t).size ≤ cs.length)) (.imm (cs.drop off)) env h
    | _, _ => .bad)
  | .field s x f =>
    (match fieldOf ty s f, evF ty env s x with
    | some (off, t), .agg cs => .val (decide (0 < (ty t).size ∧ off + (ty t).size ≤ cs.length)) ((ty t).val ((cs.drop off).take (ty t).size)) env h
    | _, _ => .bad)
  | .indexAddr t x i => (indexAddrX ty t (evF ty env t x) (evF ty env 0 i)).res env h
  | .index t x i => (indexX ty t (evF ty env t x) (evF ty env 0 i)).res env h
  | .extract t i => (match evF ty env 0 t with | .tup vs => (match vs[i]? with | some v => .val (decide True) v env h | none => .bad) | _ => .bad)
  | .call { callee := .builtin b, args, argTypes } => if rwB tk o.dst = true then rowAppX ty b argTypes.toList args.toList env h else builtinX ty b argTypes.toList args.toList env h
  | .call { callee := .value f, args, argTypes } =>
    (match evF ty env 0 f with
    | .func (.func f) first cap => if args.size = argTypes.size then .call f (first ++ ((args.toList.zip argTypes.toList).map fun (x, t) => evF ty env t x) ++ cap) else .bad
    | _ => .bad)
  | .panic x => (match evF ty env 0 x with | .iface t v => .pan (.iface t v) | _ => .bad)
  | .typeAssert x _ t ok => (match evF ty env 0 x with
    | .iface t' v => (match (ty t).k with | .iface => .bad | .other => .bad | _ => if t' = t then .val (decide True) (if ok = true then .tup [v, .bool true] else v) env h else .bad)
    | _ => .bad)
  | .insert t m k x => updateX ty t (evF ty env t m) (evF ty env 0 k) (evF ty env (elemOf (ty t).k) x) env h
  | .mapUpdate t m k x => updateX ty t (evF ty env t m) (evF ty env 0 k) (evF ty env (elemOf (ty t).k) x) env h
  | .lookup t m k c => (lookupX ty t c (evF ty env t m) (evF ty env 0 k) h).res env h
  | .range t x => rangeOpX ty t (evF ty env t x) env h
  | .next x true => nextOpX (evF ty env 0 x) env h
  | .next x false => nextMX (evF ty env 0 x) env h
  | .entry x => entryOpX (evF ty env 0 x) env h
  | _ => .bad
end
end
end Go.Proofs.YtiigffdmjdooeaaGreatDoor.Pv
set_option linter.unusedVariables false
set_option linter.unusedSimpArgs false
set_option maxHeartbeats 200000
namespace Go.Proofs.YtiigffdmjdooeaaGreatDoor.Pv
open Go

theorem intOpX_up (op : BinOp) (k : IntKind) (a b : Int) : (intOpX op k a b).up = intOp op k a b := by cases op <;> simp [intOpX, intOp, R1X.up]
theorem shiftOpX_up (op : BinOp) (k : IntKind) (a b : Int) : (shiftOpX op k a b).up = shiftOp op k a b := by cases op <;> simp [shiftOpX, shiftOp, R1X.up]
theorem strOpX_up (op : BinOp) (a b : List UInt8) : (strOpX op a b).up = strOp op a b := by cases op <;> simp [strOpX, strOp, R1X.up]
theorem fltOpX_up (op : BinOp) (k : FloatKind) (a b : Nat) : (fltOpX op k a b).up = fltOp op k a b := by cases op <;> simp [fltOpX, fltOp, R1X.up]
theorem binOpX_up (op : BinOp) (x y : V) : (binOpX op x y).up = binOp op x y := by
  unfold binOpX binOp
  cases x <;> try rfl
  all_goals (cases y <;> try rfl)
  · dsimp only
    by_cases h : isShift op = true
    · rw [if_pos h, if_pos h]; exact shiftOpX_up ..
    · rw [if_neg h, if_neg h]
      split
      · exact intOpX_up ..
      · rfl
  · dsimp only
    split
    · exact fltOpX_up ..
    · rfl
  · exact strOpX_up ..
theorem unOpX_up (op : UnOp) (x : V) : (unOpX op x).up = unOp op x := by
  unfold unOpX unOp
  cases op <;> try rfl
  all_goals (cases x <;> first | rfl | simp [R1X.up])
theorem strOfX_up (p : Bool) (o : Option (List UInt8)) : (strOfX p o).up = strOf (p = true) o := by cases o <;> simp [strOfX, strOf, R1X.up]
theorem toIntX_up (k : IntKind) (x : Option Int) : (toIntX k x).up = toInt k x := by simp [toIntX, toInt, R1X.up]
theorem minVX_up (x y : V) : (minVX x y).up = minV x y := by
  unfold minVX minV
  cases x <;> try rfl
  cases y <;> first | rfl | simp [R1X.up]
theorem maxVX_up (x y : V) : (maxVX x y).up = maxV x y := by
  unfold maxVX maxV
  cases x <;> try rfl
  cases y <;> first | rfl | simp [R1X.up]
theorem cpxVX_up (x y : V) : (cpxVX x y).up = cpxV x y := by
  unfold cpxVX cpxV
  cases x <;> try rfl
  cases y <;> try rfl
  dsimp only
  split <;> simp [R1X.up]
theorem realVX_up (x : V) : (realVX x).up = realV x := by unfold realVX realV; cases x <;> first | rfl | simp [R1X.up]
theorem imagVX_up (x : V) : (imagVX x).up = imagV x := by unfold imagVX imagV; cases x <;> first | rfl | simp [R1X.up]
theorem pickVX_up (c a b : V) : (pickVX c a b).up = pickV c a b := by unfold pickVX pickV; cases c <;> first | rfl | simp [R1X.up]
def upO : Option (Bool × Nat) → Option (Prop × Nat) := Option.map fun (p, n) => (p = true, n)
def upO2 : Option (Bool × Nat × Nat) → Option (Prop × Nat × Nat) := Option.map fun (p, n) => (p = true, n)
theorem hiBX_up (x : Option V) (m : Nat) : upO (hiBX x m) = hiB x m := by
  unfold hiBX hiB
  cases x with
  | none => simp [upO]
  | some v => cases v <;> first | rfl | simp [upO]
theorem loBX_up (x : Option V) (m : Nat) : upO (loBX x m) = loB x m := by
  unfold loBX loB
  cases x with
  | none => simp [upO]
  | some v => cases v <;> first | rfl | simp [upO]
theorem boundsX_up (lo hi : Option V) (len : Nat) : upO2 (boundsX lo hi len) = bounds lo hi len := by
  unfold boundsX bounds
  rw [← hiBX_up]
  cases hiBX hi len with
  | none => rfl
  | some q =>
    obtain ⟨p, m⟩ := q
    simp only [upO, Option.map_some]
    rw [← loBX_up]
    cases loBX lo m with
    | none => rfl
    | some q => simp [upO, upO2]
theorem withBX_up (b : Option (Bool × Nat × Nat)) (f : Nat → Nat → V) (q : Bool) : (withBX b f q).up = withB (upO2 b) f (q = true) := by
  cases b <;> simp [withBX, withB, upO2, R1X.up]
section
variable (ty : Nat → Ty)
theorem binOpTX_up (op : BinOp) (t : Nat) (c : Bool) (x y : V) : (binOpTX ty op t c x y).up = binOpT ty op t c x y := by
  unfold binOpTX binOpT
  cases op <;> try exact binOpX_up ..
  all_goals (generalize (ty t).k = k; cases k <;> try exact binOpX_up ..)
  all_goals (cases x <;> try exact binOpX_up ..)
  all_goals (cases y <;> try exact binOpX_up ..)
  all_goals first | (simp [R1X.up]; done) | (dsimp only; split <;> simp [R1X.up])
theorem convertX_up (a b : Nat) (x : V) (h : H) : (convertX ty a b x h).up = convert ty a b x h := by
  unfold convertX convert
  generalize (ty a).k = ka
  generalize (ty b).k = kb
  cases ka <;> try rfl
  all_goals (cases kb <;> try rfl)
  all_goals (cases x <;> try rfl)
  all_goals first | (simp [R1X.up]; done) | exact toIntX_up .. | (simp only []; split <;> simp [R1X.up]; done) | skip
  · rename_i sz xs
    match sz with
    | 0 => rfl
    | 1 =>
      simp only []
      split
      · rw [strOfX_up]; simp
      · rfl
    | n + 2 => rfl
  · rename_i id off len sz
    match sz with
    | 0 => rfl
    | 1 =>
      simp only []
      split
      · cases H.row h id with
        | none => rfl
        | some cs => simp only []; rw [strOfX_up]; simp
      · rfl
    | n + 2 => rfl
theorem appendX_up (t : Nat) (s x : V) : (appendX ty t s x).up = append ty t s x := by
  unfold appendX append
  generalize (ty t).k = k
  cases k <;> try rfl
  cases s <;> try rfl
  all_goals (cases x <;> first | rfl | simp [R1X.up])
theorem sliceX_up (t : Nat) (x : V) (lo hi : Option V) : (sliceX ty t x lo hi).up = slice ty t x lo hi := by
  unfold sliceX slice
  generalize (ty t).k = k
  cases k <;> try rfl
  all_goals (cases x <;> first | rfl | (simp only []; rw [withBX_up, boundsX_up]; simp only [decide_eq_true_eq]))
theorem slice3X_up (t : Nat) (x : V) (lo hi : Option V) (m : V) : (slice3X ty t x lo hi m).up = slice3 ty t x lo hi m := by
  unfold slice3X slice3
  generalize (ty t).k = k
  cases k <;> try rfl
  cases x <;> try rfl
  cases hi with
  | none => rfl
  | some v =>
    cases v <;> try rfl
    cases m <;> try rfl
    dsimp only
    split
    · simp [withBX_up, boundsX_up]
    · rfl
theorem indexAddrX_up (t : Nat) (x i : V) : (indexAddrX ty t x i).up = indexAddr ty t x i := by
  unfold indexAddrX indexAddr
  generalize (ty t).k = k
  cases k <;> try rfl
  all_goals (cases x <;> try rfl)
  all_goals (cases i <;> first | rfl | simp [R1X.up])
theorem indexX_up (t : Nat) (x i : V) : (indexX ty t x i).up = index ty t x i := by
  unfold indexX index
  generalize (ty t).k = k
  cases k <;> try rfl
  all_goals (cases x <;> try rfl)
  all_goals (cases i <;> first | rfl | simp [R1X.up])
theorem lenVX_up (t : Nat) (x : V) (h : H) : (lenVX ty t x h).up = lenV ty t x h := by
  unfold lenVX lenV
  generalize (ty t).k = k
  cases k <;> first | rfl | (simp [R1X.up]; done) | skip
  all_goals (cases x <;> first | rfl | (simp [R1X.up]; done) | skip)
  rename_i id
  dsimp only
  cases h[id]? with
  | none => rfl
  | some o => cases o <;> first | rfl | simp [R1X.up]
theorem buildOkX_up (t : Nat) : (buildOkX ty t = true) = buildOk ty t := by
  unfold buildOkX buildOk
  cases (ty t).k <;> simp
theorem lookupX_up (t : Nat) (c : Bool) (m k : V) (h : H) : (lookupX ty t c m k h).up = lookup ty t c m k h := by
  unfold lookupX lookup
  generalize (ty t).k = kk
  cases kk <;> try rfl
  cases m <;> try rfl
  all_goals (cases k <;> try rfl)
  · rename_i id s
    dsimp only
    cases h[id]? with
    | none => rfl
    | some o => cases o <;> first | rfl | simp [R1X.up, K.isStr_iff]
  · simp [R1X.up, K.isStr_iff]
def upL : Option (Bool × List V) → Option (Prop × List V) := Option.map fun (p, n) => (p = true, n)
theorem fillX_up (place : Nat → Option (Nat × Nat × Nat)) (env : EnvX) : ∀ (l : List (Nat × Operand)) (p : Bool) (cs : List V), upL (fillX ty place env l p cs) = fill ty place env.toE l (p = true) cs
  | [], p, cs => rfl
  | (i, x) :: rest, p, cs => by
    simp only [fillX, fill, evF_eq]
    cases place i with
    | none => rfl
    | some q => dsimp only; rw [fillX_up place env rest, decide_eq_true_eq]
theorem loadX_up (t : Nat) (tk ln : Bool) (p : V) (env : EnvX) (h : H) : (loadX ty t tk ln p env h).up = load ty t tk ln p env.toE h := by
  unfold loadX load
  cases p <;> first | rfl | (simp [ResX.up]; done) | skip
  rename_i id off
  dsimp only
  cases h.row id with
  | none => rfl
  | some cs =>
    dsimp only
    split
    · simp [ResX.up]
    · split
      · simp [ResX.up]
      · split
        · simp [ResX.up]
        · unfold loadNX loadN
          cases cs.getD off .top <;> simp [ResX.up]
theorem storeX_up (t : Nat) (p x : V) (env : EnvX) (h : H) : (storeX ty t p x env h).up = store ty t p x env.toE h := by
  unfold storeX store
  cases p <;> try rfl
  rename_i id off
  dsimp only
  cases h.row id <;> first | rfl | simp [ResX.up]
theorem cutX_up (t i : Nat) (v : V) (lo hi : Option V) (env : EnvX) (h : H) : (cutX ty t i v lo hi env h).up = cut ty t i v lo hi env.toE h := by
  unfold cutX cut
  generalize (ty t).k = k
  cases k <;> try rfl
  cases v <;> try rfl
  · rename_i e s xs
    cases xs with
    | nil =>
      cases lo with
      | none =>
        dsimp only
        rw [← hiBX_up]
        cases hiBX hi 0 <;> simp [upO, ResX.up, EnvX.put_toE]
      | some l => cases l <;> first | rfl | (cases hi <;> first | rfl | simp [ResX.up, EnvX.put_toE])
    | cons x xs =>
      cases lo with
      | none => rfl
      | some l => cases l <;> first | rfl | (cases hi <;> first | rfl | simp [ResX.up, EnvX.put_toE])
  · cases lo with
    | none =>
      dsimp only
      rw [← hiBX_up]
      cases hiBX hi _ <;> simp [upO, ResX.up, EnvX.put_toE]
    | some l => rfl
theorem sliceNilX_up (op : BinOp) (t : Nat) (c : Bool) (x y : V) (env : EnvX) (h : H) : (sliceNilX ty op t c x y env h).map ResX.up = sliceNil ty op t c x y env.toE h := by
  unfold sliceNilX sliceNil
  cases op <;> try rfl
  all_goals (generalize (ty t).k = k; cases k <;> try rfl)
  all_goals (cases x <;> try rfl)
  all_goals (cases y <;> try rfl)
  all_goals (dsimp only; split <;> simp [ResX.up])
theorem updateX_up (t : Nat) (m k v : V) (env : EnvX) (h : H) : (updateX ty t m k v env h).up = update ty t m k v env.toE h := by
  unfold updateX update
  generalize (ty t).k = kk
  cases kk <;> try rfl
  cases m <;> try rfl
  cases k <;> try rfl
  rename_i id s
  dsimp only
  cases h[id]? with
  | none => rfl
  | some o => cases o <;> first | rfl | simp [ResX.up, K.isStr_iff]
theorem sliceOpX_up (m : Bool) (t : Nat) (x : Operand) (lo hi : Option Operand) (env : EnvX) (h : H) : (sliceOpX ty m t x lo hi env h).up = sliceOp ty m t x lo hi env.toE h := by
  unfold sliceOpX sliceOp
  simp only [evF_eq, getF_eq]
  cases m <;> cases x <;> first | exact cutX_up .. | (dsimp only; rw [R1X.res_up, sliceX_up])
theorem rangeOpX_up (t : Nat) (x : V) (env : EnvX) (h : H) : (rangeOpX ty t x env h).up = rangeOp ty t x env.toE h := by
  unfold rangeOpX rangeOp
  generalize (ty t).k = k
  cases k <;> try rfl
  · cases x <;> first | rfl | simp [ResX.up]
  · cases x <;> try rfl
    rename_i id
    dsimp only
    cases h[id]? with
    | none => rfl
    | some o =>
      cases o <;> try rfl
      dsimp only
      cases keysOf _ <;> simp [ResX.up]
theorem nextMX_up (x : V) (env : EnvX) (h : H) : (nextMX x env h).up = nextM x env.toE h := by
  match x with
  | .ref id 0 =>
    cases hq : h[id]? with
    | none => simp [nextMX, nextM, hq, ResX.up]
    | some o =>
      cases o <;> try (simp [nextMX, nextM, hq, ResX.up]; done)
      rename_i m n left last
      cases hm : h[m]? with
      | none => simp [nextMX, nextM, hq, hm, ResX.up]
      | some o =>
        cases o <;> try (simp [nextMX, nextM, hq, hm, ResX.up]; done)
        rename_i es
        by_cases h1 : es.length = n
        · by_cases h2 : left = []
          · simp [nextMX, nextM, hq, hm, h1, h2, ResX.up]
          · simp [nextMX, nextM, hq, hm, h1, h2, ResX.up]
        · simp [nextMX, nextM, hq, hm, h1, ResX.up]
  | .ref id (n + 1) => rfl
  | .bool _ | .int _ _ | .flt _ _ | .cpx _ _ _ | .str _ | .sl _ _ | .cap _ _ | .slen _ | .own _ _ _ | .pri _ _ _ _ | .raw _ | .nils _ _ | .msl _ _ _ _ | .imm _ | .nilp | .map _ | .nilm | .func _ _ _ | .nilf | .iface _ _ | .nili | .agg _ | .tup _ | .top => rfl
theorem entryOpX_up (x : V) (env : EnvX) (h : H) : (entryOpX x env h).up = entryOp x env.toE h := by
  match x with
  | .ref id 0 =>
    cases hq : h[id]? with
    | none => simp [entryOpX, entryOp, hq, ResX.up]
    | some o =>
      cases o <;> try (simp [entryOpX, entryOp, hq, ResX.up]; done)
      rename_i m n left last
      cases last with
      | none => simp [entryOpX, entryOp, hq, ResX.up]
      | some k =>
        cases hm : h[m]? with
        | none => simp [entryOpX, entryOp, hq, hm, ResX.up]
        | some o =>
          cases o <;> try (simp [entryOpX, entryOp, hq, hm, ResX.up]; done)
          rename_i es
          by_cases h1 : es.length = n
          · simp [entryOpX, entryOp, hq, hm, h1, ResX.up]
          · simp [entryOpX, entryOp, hq, hm, h1, ResX.up]
  | .ref id (n + 1) => rfl
  | .bool _ | .int _ _ | .flt _ _ | .cpx _ _ _ | .str _ | .sl _ _ | .cap _ _ | .slen _ | .own _ _ _ | .pri _ _ _ _ | .raw _ | .nils _ _ | .msl _ _ _ _ | .imm _ | .nilp | .map _ | .nilm | .func _ _ _ | .nilf | .iface _ _ | .nili | .agg _ | .tup _ | .top => rfl
theorem nextOpX_up (x : V) (env : EnvX) (h : H) : (nextOpX x env h).up = nextOp x env.toE h := by
  match x with
  | .ref id 0 =>
    cases hq : h[id]? with
    | none => simp [nextOpX, nextOp, hq, ResX.up]
    | some o => cases o <;> simp [nextOpX, nextOp, hq, ResX.up]
  | .ref id (n + 1) => rfl
  | .bool _ | .int _ _ | .flt _ _ | .cpx _ _ _ | .str _ | .sl _ _ | .cap _ _ | .slen _ | .own _ _ _ | .pri _ _ _ _ | .raw _ | .nils _ _ | .msl _ _ _ _ | .imm _ | .nilp | .map _ | .nilm | .func _ _ _ | .nilf | .iface _ _ | .nili | .agg _ | .tup _ | .top => rfl
theorem rowAppX_up (b : Builtin) (ts : List Nat) (xs : List Operand) (env : EnvX) (h : H) : (rowAppX ty b ts xs env h).up = rowApp ty b ts xs env.toE h := by
  unfold rowAppX rowApp
  simp only [evF_eq, getF_eq]
  cases b <;> try rfl
  cases ts with
  | nil => rfl
  | cons t ts => cases ts with
    | nil => rfl
    | cons t' ts => cases ts with
      | cons _ _ => rfl
      | nil => cases xs with
        | nil => rfl
        | cons x xs => cases xs with
          | nil => cases x <;> rfl
          | cons y xs => cases xs with
            | cons _ _ => cases x <;> rfl
            | nil =>
              cases x <;> try rfl
              rename_i s
              dsimp only
              cases (ty t).k <;> try rfl
              cases env.toE.get s <;> try rfl
              cases ev ty env.toE t y <;> try rfl
              dsimp only
              split <;> simp [ResX.up]
theorem builtinX_up (b : Builtin) (ts : List Nat) (xs : List Operand) (env : EnvX) (h : H) : (builtinX ty b ts xs env h).up = builtin ty b ts xs env.toE h := by
  unfold builtinX builtin
  simp only [evF_eq, getF_eq]
  cases b <;> try rfl
  all_goals (cases ts with | nil => rfl | cons t ts => ?_)
  all_goals (cases ts with | nil => ?_ | cons t' ts => ?_)
  all_goals first
    | rfl
    | (cases xs with
        | nil => rfl
        | cons x xs => (cases xs with
          | nil => first | rfl | (dsimp only; rw [R1X.res_up]; first | rw [lenVX_up] | rw [realVX_up] | rw [imagVX_up]) | (cases x <;> rfl)
          | cons y xs => first | rfl | (cases x <;> rfl)))
    | (cases ts with
        | cons t2 ts => first | rfl | (cases xs with | nil => rfl | cons x xs => (cases x <;> rfl))
        | nil => (cases xs with
          | nil => rfl
          | cons x xs => (cases xs with
            | nil => first | rfl | (cases x <;> rfl)
            | cons y xs => (cases xs with
              | cons z xs => first | rfl | (cases x <;> rfl)
              | nil => first
                | (dsimp only; rw [R1X.res_up]; first | rw [minVX_up] | rw [maxVX_up] | rw [cpxVX_up])
                | (cases x <;> first | rfl | (dsimp only; split <;> first | rfl | (rw [R1X.res_up, appendX_up, EnvX.put_toE]) | (rw [R1X.res_up, appendX_up])))))))
end
end Go.Proofs.YtiigffdmjdooeaaGreatDoor.Pv
set_option linter.unusedVariables false
set_option linter.unusedSimpArgs false
set_option maxHeartbeats 1000000
namespace Go.Proofs.YtiigffdmjdooeaaGreatDoor.Pv
open Go
section
variable (ty : Nat → Ty)
theorem aopX_up (tk : List Nat) (o : Oper) (env : EnvX) (h : H) : (aopX ty tk o env h).up = aop ty tk o env.toE h := by
  unfold aopX aop
  simp only [evF_eq, getF_eq]
  generalize o.op = q
  cases q <;> try rfl
  case load t a => exact loadX_up ..
  case store t a x => cases x <;> exact storeX_up ..
  case insert t m k x => exact updateX_up ..
  case mapUpdate t m k x => exact updateX_up ..
  case range t x => exact rangeOpX_up ..
  case entry x => exact entryOpX_up ..
  case next x b => cases b <;> first | exact nextOpX_up .. | exact nextMX_up ..
  case pick c a b => simp only []; rw [R1X.res_up, pickVX_up]
  case unOp op t x => simp only []; rw [R1X.res_up, unOpX_up]
  case convert s d x => simp only []; rw [R1X.res_up, convertX_up]
  case indexAddr t x i => simp only []; rw [R1X.res_up, indexAddrX_up]
  case index t x i => simp only []; rw [R1X.res_up, indexX_up]
  case lookup t m k c => simp only []; rw [R1X.res_up, lookupX_up]
  case slice t x lo hi mx =>
    cases mx with
    | none => exact sliceOpX_up ..
    | some m => simp only []; rw [R1X.res_up, slice3X_up]
  case binOp op t x y t' =>
    simp only []
    rw [← sliceNilX_up]
    cases sliceNilX ty op t _ _ _ env h with
    | none => simp only [Option.map_none, Option.getD_none]; rw [R1X.res_up, binOpTX_up]
    | some r => rfl
  case move x =>
    cases x <;> first
      | (simp [ResX.up, EnvX.put_toE]; done)
      | (simp only []; split <;> simp [ResX.up, EnvX.put_toE])
  case assign x =>
    cases x <;> first
      | (simp [ResX.up, EnvX.put_toE]; done)
      | (simp only []; split <;> simp [ResX.up, EnvX.put_toE])
  case alloc t => simp [ResX.up, EnvX.put_toE]
  case box t x => simp [ResX.up, EnvX.put_toE]
  case build t parts =>
    simp only []
    rw [← buildOkX_up]
    have := fillX_up ty (placeOf ty t) env parts.toList (decide (buildOkX ty t = true ∧ 0 < (ty t).size ∧ (ty t).zero.all V.plain = true)) (ty t).zero
    rw [decide_eq_true_eq] at this
    rw [← this]
    cases fillX ty (placeOf ty t) env parts.toList _ (ty t).zero <;> simp [upL, ResX.up, EnvX.put_toE]
  case buildSlice t n parts =>
    simp only []
    cases (ty t).k <;> try rfl
    rename_i el
    simp only []
    have := fillX_up ty (placeOf ty t) env parts.toList (decide (n * (ty el).size ≤ 16777216 ∧ 0 < (ty el).size ∧ (ty el).zero.all V.plain = true)) (repl (ty el).zero n)
    rw [decide_eq_true_eq] at this
    rw [← this]
    cases fillX ty (placeOf ty t) env parts.toList _ (repl (ty el).zero n) <;> simp [upL, ResX.up, EnvX.put_toE]
  case nilCheck x => simp only []; cases ev ty env.toE 0 x <;> simp [ResX.up, EnvX.put_toE]
  case makeInterface t x => simp only []; cases (ty t).k <;> simp [ResX.up, EnvX.put_toE]
  case makeFunc f fs cs => cases f <;> simp [ResX.up, EnvX.put_toE]
  case makeMap t x => cases x <;> simp [ResX.up, EnvX.put_toE]
  case makeSlice t l c =>
    simp only []
    cases (ty t).k <;> try rfl
    cases ev ty env.toE 0 l <;> try rfl
    cases ev ty env.toE 0 c <;> first | rfl | simp [ResX.up, EnvX.put_toE]
  case fieldAddr s x f =>
    simp only []
    cases fieldOf ty s f with
    | none => rfl
    | some q => cases ev ty env.toE 0 x <;> first | rfl | simp [ResX.up, EnvX.put_toE]
  case field s x f =>
    simp only []
    cases fieldOf ty s f with
    | none => rfl
    | some q => cases ev ty env.toE s x <;> first | rfl | simp [ResX.up, EnvX.put_toE]
  case extract t i =>
    simp only []
    cases ev ty env.toE 0 t <;> try rfl
    rename_i vs
    simp only []
    cases vs[i]? <;> simp [ResX.up, EnvX.put_toE]
  case panic x => simp only []; cases ev ty env.toE 0 x <;> simp [ResX.up, EnvX.put_toE]
  case typeAssert x a t ok =>
    simp only []
    cases ev ty env.toE 0 x <;> try rfl
    simp only []
    cases (ty t).k <;> first | rfl | (simp only []; split <;> simp [ResX.up, EnvX.put_toE])
  case call c =>
    obtain ⟨cal, args, ts⟩ := c
    cases cal <;> try rfl
    · simp only []
      cases ev ty env.toE 0 _ <;> try rfl
      rename_i fn fs cs
      cases fn <;> first | rfl | (simp only []; split <;> rfl)
    · simp only []
      split
      · exact rowAppX_up ..
      · exact builtinX_up ..
end
end Go.Proofs.YtiigffdmjdooeaaGreatDoor.Pv
set_option linter.unusedVariables false
set_option linter.unusedSimpArgs false
namespace Go.Proofs.YtiigffdmjdooeaaGreatDoor.Pv
open Go
noncomputable section
mutual
def V.beq : V → V → Bool
  | .bool a, .bool b => a == b
  | .int k a, .int l b => decide (k = l) && decide (a = b)
  | .flt k a, .flt l b => decide (k = l) && a == b
  | .cpx k a c, .cpx l b d => decide (k = l) && (a == b && c == d)
  | .str a, .str b => decide (a = b)
  | .sl s x, .sl t y => s == t && V.beqL x y
  | .cap s x, .cap t y => s == t && V.beqL x y
  | .slen a, .slen b => a == b
  | .own e s x, .own f t y => e == f && (s == t && V.beqL x y)
  | .nils a b, .nils c d => a == c && b == d
  | .msl a b c d, .msl e f g h => a == e && (b == f && (c == g && d == h))
  | .ref a b, .ref c d => a == c && b == d
  | .imm x, .imm y => V.beqL x y
  | .nilp, .nilp => true
  | .map a, .map b => a == b
  | .nilm, .nilm => true
  | .func (.func a) x y, .func (.func b) z w => a == b && (V.beqL x z && V.beqL y w)
  | .nilf, .nilf => true
  | .iface a x, .iface b y => a == b && V.beq x y
  | .nili, .nili => true
  | .agg x, .agg y => V.beqL x y
  | .tup x, .tup y => V.beqL x y
  | .top, .top => true
  | _, _ => false
def V.beqL : List V → List V → Bool
  | [], [] => true
  | x :: xs, y :: ys => V.beq x y && V.beqL xs ys
  | _, _ => false
end
mutual
theorem V.beq_eq : ∀ (x y : V), V.beq x y = true → x = y
  | .bool a, y, h => by cases y <;> simp_all [V.beq]
  | .int k a, y, h => by cases y <;> simp_all [V.beq]
  | .flt k a, y, h => by cases y <;> simp_all [V.beq]
  | .cpx k a b, y, h => by cases y <;> simp_all [V.beq]
  | .str a, y, h => by cases y <;> simp_all [V.beq]
  | .sl s x, y, h => by
    cases y <;> simp [V.beq] at h
    obtain ⟨rfl, h⟩ := h; rw [V.beqL_eq _ _ h]
  | .cap s x, y, h => by
    cases y <;> simp [V.beq] at h
    obtain ⟨rfl, h⟩ := h; rw [V.beqL_eq _ _ h]
  | .slen a, y, h => by cases y <;> simp_all [V.beq]
  | .own e s x, y, h => by
    cases y <;> simp [V.beq] at h
    obtain ⟨rfl, rfl, h⟩ := h; rw [V.beqL_eq _ _ h]
  | .pri _ _ _ _, y, h => by cases y <;> simp [V.beq] at h
  | .raw _, y, h => by cases y <;> simp [V.beq] at h
  | .nils a b, y, h => by cases y <;> simp_all [V.beq]
  | .msl a b c d, y, h => by cases y <;> simp_all [V.beq]
  | .ref a b, y, h => by cases y <;> simp_all [V.beq]
  | .imm x, y, h => by
    cases y <;> simp [V.beq] at h
    rw [V.beqL_eq _ _ h]
  | .nilp, y, h => by cases y <;> simp_all [V.beq]
  | .map a, y, h => by cases y <;> simp_all [V.beq]
  | .nilm, y, h => by cases y <;> simp_all [V.beq]
  | .func f x z, y, h => by
    cases y with
    | func g x' z' =>
      cases f <;> cases g <;> simp [V.beq] at h
      obtain ⟨rfl, h1, h2⟩ := h; rw [V.beqL_eq _ _ h1, V.beqL_eq _ _ h2]
    | _ => cases f <;> simp [V.beq] at h
  | .nilf, y, h => by cases y <;> simp_all [V.beq]
  | .iface a x, y, h => by
    cases y <;> simp [V.beq] at h
    obtain ⟨rfl, h⟩ := h; rw [V.beq_eq _ _ h]
  | .nili, y, h => by cases y <;> simp_all [V.beq]
  | .agg x, y, h => by
    cases y <;> simp [V.beq] at h
    rw [V.beqL_eq _ _ h]
  | .tup x, y, h => by
    cases y <;> simp [V.beq] at h
    rw [V.beqL_eq _ _ h]
  | .top, y, h => by cases y <;> simp_all [V.beq]
theorem V.beqL_eq : ∀ (x y : List V), V.beqL x y = true → x = y
  | [], [], _ => rfl
  | [], _ :: _, h => by simp [V.beqL] at h
  | _ :: _, [], h => by simp [V.beqL] at h
  | x :: xs, y :: ys, h => by
    simp only [V.beqL, Bool.and_eq_true] at h
    rw [V.beq_eq x y h.1, V.beqL_eq xs ys h.2]
end
def mapB : List (V × V) → List (V × V) → Bool
  | [], [] => true
  | (a, b) :: r, (c, d) :: s => V.beq a c && (V.beq b d && mapB r s)
  | _, _ => false
theorem mapB_eq : ∀ (x y : List (V × V)), mapB x y = true → x = y
  | [], [], _ => rfl
  | [], _ :: _, h => by simp [mapB] at h
  | _ :: _, [], h => by simp [mapB] at h
  | (a, b) :: r, (c, d) :: s, h => by
    simp only [mapB, Bool.and_eq_true] at h
    rw [V.beq_eq a c h.1, V.beq_eq b d h.2.1, mapB_eq r s h.2.2]
def AObj.beq : AObj → AObj → Bool
  | .cells t x, .cells u y => t == u && V.beqL x y
  | .map x, .map y => mapB x y
  | .siter s p, .siter t q => decide (s = t) && p == q
  | .miter m n l k, .miter m' n' l' k' => m == m' && (n == n' && (decide (l = l') && decide (k = k')))
  | _, _ => false
theorem AObj.beq_eq (x y : AObj) (h : AObj.beq x y = true) : x = y := by
  cases x <;> cases y <;> simp [AObj.beq] at h
  · obtain ⟨rfl, h⟩ := h; rw [V.beqL_eq _ _ h]
  · rw [mapB_eq _ _ h]
  · obtain ⟨rfl, rfl⟩ := h; rfl
  · obtain ⟨rfl, rfl, rfl, rfl⟩ := h; rfl
def heapB : H → H → Bool
  | [], [] => true
  | x :: r, y :: s => AObj.beq x y && heapB r s
  | _, _ => false
theorem heapB_eq : ∀ (x y : H), heapB x y = true → x = y
  | [], [], _ => rfl
  | [], _ :: _, h => by simp [heapB] at h
  | _ :: _, [], h => by simp [heapB] at h
  | x :: r, y :: s, h => by
    simp only [heapB, Bool.and_eq_true] at h
    rw [AObj.beq_eq x y h.1, heapB_eq r s h.2]
def envB : Env → Env → Bool
  | [], [] => true
  | (i, x) :: r, (j, y) :: s => i == j && (V.beq x y && envB r s)
  | _, _ => false
theorem envB_eq : ∀ (x y : Env), envB x y = true → x = y
  | [], [], _ => rfl
  | [], _ :: _, h => by simp [envB] at h
  | _ :: _, [], h => by simp [envB] at h
  | (i, x) :: r, (j, y) :: s, h => by
    simp only [envB, Bool.and_eq_true, beq_iff_eq] at h
    rw [h.1, V.beq_eq x y h.2.1, envB_eq r s h.2.2]
mutual
def V.clB (m : Nat) : V → Bool
  | .sl _ x => V.clL m x
  | .cap _ x => V.clL m x
  | .own _ _ x => V.clL m x
  | .pri _ _ _ x => V.clL m x
  | .imm x => V.clL m x
  | .agg x => V.clL m x
  | .tup x => V.clL m x
  | .iface _ v => V.clB m v
  | .func _ x y => V.clL m x && V.clL m y
  | .ref i _ => decide (i < m)
  | .msl i _ _ _ => decide (i < m)
  | .map i => decide (i < m)
  | _ => true
def V.clL (m : Nat) : List V → Bool
  | [] => true
  | x :: xs => V.clB m x && V.clL m xs
end
mutual
theorem V.clB_cl (m : Nat) : ∀ x : V, V.clB m x = true → V.Cl m x
  | .bool _, _ => .bool _
  | .int _ _, _ => .int _ _
  | .flt _ _, _ => .flt _ _
  | .cpx _ _ _, _ => .cpx _ _ _
  | .str _, _ => .str _
  | .sl _ x, h => .sl _ _ (V.clL_cl m x h)
  | .cap _ x, h => .cap _ _ (V.clL_cl m x h)
  | .slen _, _ => .slen _
  | .own _ _ x, h => .own _ _ _ (V.clL_cl m x h)
  | .pri _ _ _ x, h => .pri _ _ _ _ (V.clL_cl m x h)
  | .raw _, _ => .raw _
  | .nils _ _, _ => .nils _ _
  | .msl _ _ _ _, h => .msl _ _ _ _ (of_decide_eq_true h)
  | .ref _ _, h => .ref _ _ (of_decide_eq_true h)
  | .imm x, h => .imm _ (V.clL_cl m x h)
  | .nilp, _ => .nilp
  | .map _, h => .map _ (of_decide_eq_true h)
  | .nilm, _ => .nilm
  | .func _ x y, h => by
    simp only [V.clB, Bool.and_eq_true] at h
    exact .func _ _ _ (V.clL_cl m x h.1) (V.clL_cl m y h.2)
  | .nilf, _ => .nilf
  | .iface _ v, h => .iface _ _ (V.clB_cl m v h)
  | .nili, _ => .nili
  | .agg x, h => .agg _ (V.clL_cl m x h)
  | .tup x, h => .tup _ (V.clL_cl m x h)
  | .top, _ => .top
theorem V.clL_cl (m : Nat) : ∀ x : List V, V.clL m x = true → ∀ v ∈ x, V.Cl m v
  | [], _, v, hv => by cases hv
  | x :: xs, h, v, hv => by
    simp only [V.clL, Bool.and_eq_true] at h
    cases hv with
    | head => exact V.clB_cl m x h.1
    | tail _ hv => exact V.clL_cl m xs h.2 v hv
end
def AObj.clB (m : Nat) : AObj → Bool
  | .cells _ x => V.clL m x
  | .map es => es.all fun e => V.clB m e.1 && V.clB m e.2
  | .siter _ _ => true
  | .miter i _ _ _ => decide (i < m)
theorem AObj.clB_cl (m : Nat) (o : AObj) (h : AObj.clB m o = true) : AObj.Cl m o := by
  cases o with
  | cells t x => exact V.clL_cl m x h
  | map es =>
    intro k v hkv
    have := List.all_eq_true.1 h _ hkv
    simp only [Bool.and_eq_true] at this
    exact ⟨V.clB_cl m k this.1, V.clB_cl m v this.2⟩
  | siter s p => trivial
  | miter i n l k =>
    have : i < m := of_decide_eq_true h
    exact this
/-! ### The same, by fewer steps -/
/-- Put, and the slots laid out. -/
def putF {α : Type} (i : Nat) (v : V) (env : Env) (k : Env → α) : α :=
  List.rec (motive := fun _ => (Env → α) → α) (fun k => k [(i, v)]) (fun p r ih k => Bool.rec (motive := fun _ => α) (ih fun r' => k (p :: r')) (k ((p.1, v) :: r)) (Nat.beq i p.1)) env k
theorem putF_nil {α : Type} (i : Nat) (v : V) (k : Env → α) : putF i v [] k = k [(i, v)] := rfl
theorem putF_cons {α : Type} (i : Nat) (v : V) (j : Nat) (u : V) (r : Env) (k : Env → α) : putF i v ((j, u) :: r) k = match Nat.beq i j with | true => k ((j, v) :: r) | false => putF i v r fun r => k ((j, u) :: r) := by
  show _ = _
  cases h : Nat.beq i j <;> simp [putF, h]
theorem beq_no {i j : Nat} (e : ¬ i = j) : Nat.beq i j = false := by
  cases hb : Nat.beq i j with
  | false => rfl
  | true => exact absurd (Nat.eq_of_beq_eq_true hb) e
theorem putF_eq {α : Type} (i : Nat) (v : V) : ∀ (env : Env) (k : Env → α), putF i v env k = k (env.put i v)
  | [], k => rfl
  | (j, u) :: r, k => by
    rw [putF_cons]
    by_cases e : i = j
    · subst e; rw [Nat.beq_refl]; simp [Env.put]
    · rw [beq_no e]; simp only [putF_eq i v r, Env.put, if_neg e]
def memF (j : Nat) : List Nat → Bool
  | [] => false
  | k :: r => match Nat.beq j k with | true => true | false => memF j r
theorem memF_eq (j : Nat) : ∀ l : List Nat, memF j l = l.contains j
  | [] => rfl
  | k :: r => by
    unfold memF
    rw [List.contains_cons]
    by_cases e : j = k
    · subst e; rw [Nat.beq_refl]; simp
    · rw [beq_no e, show (j == k) = false from by simpa using e]; simp [memF_eq j r]
/-- Slots as the bits of a number. -/
def maskOf : List Nat → Nat
  | [] => 0
  | k :: r => Nat.lor (Nat.shiftLeft 1 k) (maskOf r)
def bitB (m i : Nat) : Bool := Nat.beq (Nat.land (Nat.shiftRight m i) 1) 1
theorem bitB_test (m i : Nat) : bitB m i = Nat.testBit m i := by
  rw [Nat.testBit_eq_decide_div_mod_eq]
  show Nat.beq ((m >>> i) &&& 1) 1 = _
  rw [Nat.shiftRight_eq_div_pow, Nat.and_one_is_mod]
  by_cases h : m / 2 ^ i % 2 = 1
  · rw [h]; rfl
  · rw [beq_no h]; simp [h]
theorem bitB_mask : ∀ (ks : List Nat) (i : Nat), bitB (maskOf ks) i = ks.contains i
  | [], i => by rw [bitB_test]; simp [maskOf]
  | k :: r, i => by
    have ih := bitB_mask r i
    rw [bitB_test] at ih ⊢
    show ((1 <<< k) ||| maskOf r).testBit i = _
    rw [Nat.testBit_or, ih, Nat.testBit_shiftLeft, List.contains_cons]
    congr 1
    by_cases e : i = k
    · subst e; simp
    · rw [show (i == k) = false from by simpa using e]
      by_cases h : k ≤ i
      · have h0 : i - k ≠ 0 := by omega
        have h1 : Nat.testBit 1 (i - k) = false := by
          cases hb : Nat.testBit 1 (i - k) with
          | false => rfl
          | true => exact absurd (Nat.testBit_one_eq_true_iff_self_eq_zero.1 hb) h0
        simp [h, h1]
      · simp [h]
def keepF {α : Type} (m : Nat) (env : Env) (k : Env → α) : α :=
  List.rec (motive := fun _ => (Env → α) → α) (fun k => k []) (fun p r ih k => Bool.rec (motive := fun _ => α) (ih k) (ih fun r' => k (p :: r')) (bitB m p.1)) env k
theorem keepF_cons {α : Type} (m : Nat) (p : Nat × V) (r : Env) (k : Env → α) : keepF m (p :: r) k = match bitB m p.1 with | true => keepF m r fun r => k (p :: r) | false => keepF m r k := by
  show _ = _
  cases h : bitB m p.1 <;> simp [keepF, h]
theorem keepF_eq {α : Type} (ks : List Nat) : ∀ (env : Env) (k : Env → α), keepF (maskOf ks) env k = k (env.keep ks)
  | [], k => rfl
  | (j, u) :: r, k => by
    rw [keepF_cons]
    simp only [bitB_mask]
    cases hc : ks.contains j <;> simp only [Env.keep, hc, if_true, Bool.false_eq_true, if_false, keepF_eq ks r]
/-- At a region's end: what it has written and is kept. -/
def finF {α : Type} (m : Nat) (t b : Env) (k : Env → α) : α :=
  List.rec (motive := fun _ => (Env → α) → α) (fun k => k b) (fun p _ ih k => Bool.rec (motive := fun _ => α) (ih k) (ih fun b => putF p.1 p.2 b k) (bitB m p.1)) t k
theorem finF_cons {α : Type} (m : Nat) (p : Nat × V) (r b : Env) (k : Env → α) : finF m (p :: r) b k = match bitB m p.1 with | true => finF m r b fun b => putF p.1 p.2 b k | false => finF m r b k := by
  show _ = _
  cases h : bitB m p.1 <;> simp [finF, h]
theorem keep_put (ks : List Nat) (i : Nat) (v : V) : ∀ e : Env, (e.put i v).keep ks = if ks.contains i = true then (e.keep ks).put i v else e.keep ks
  | [] => by
    by_cases h : ks.contains i = true
    · simp only [Env.put, Env.keep, if_pos h]
    · simp only [Env.put, Env.keep, if_neg h]
  | (j, u) :: r => by
    simp only [Env.put]
    by_cases e : i = j
    · subst e
      rw [if_pos rfl]
      by_cases h : ks.contains i = true
      · simp only [Env.keep, if_pos h, Env.put]; simp
      · simp only [Env.keep, if_neg h]
    · rw [if_neg e]
      by_cases hj : ks.contains j = true
      · simp only [Env.keep, if_pos hj, keep_put ks i v r]
        by_cases h : ks.contains i = true
        · rw [if_pos h, if_pos h]; simp only [Env.put, if_neg e]
        · rw [if_neg h, if_neg h]
      · simp only [Env.keep, if_neg hj]
        exact keep_put ks i v r
theorem keep_keep (ks : List Nat) : ∀ e : Env, (e.keep ks).keep ks = e.keep ks
  | [] => rfl
  | (j, u) :: r => by
    simp only [Env.keep]
    by_cases hk : ks.contains j = true
    · rw [if_pos hk]; simp only [Env.keep]; rw [if_pos hk, keep_keep ks r]
    · rw [if_neg hk]; exact keep_keep ks r
theorem finF_eq {α : Type} (ks : List Nat) {b : Env} (hb : b.keep ks = b) : ∀ (t : Env) (k : Env → α), finF (maskOf ks) t b k = k ((EnvX.toE (.mk t b)).keep ks)
  | [], k => by
    show k b = k (b.keep ks)
    rw [hb]
  | (i, v) :: r, k => by
    rw [finF_cons]
    show _ = k ((Env.put (EnvX.toE (.mk r b)) i v).keep ks)
    simp only [bitB_mask, keep_put]
    cases hc : ks.contains i
    · simp only [Bool.false_eq_true, if_false]; exact finF_eq ks hb r k
    · simp only [if_true, finF_eq ks hb r, putF_eq]
/-- A value's head. -/
def V.whnf {α : Type} (v : V) (k : V → α) : α :=
  match v with
  | .bool b => k (.bool b)
  | .int d n => k (.int d n)
  | .str s => k (.str s)
  | .sl s x => k (.sl s x)
  | .own e s x => k (.own e s x)
  | .ref a b => k (.ref a b)
  | .imm x => k (.imm x)
  | .map a => k (.map a)
  | .func f x y => k (.func f x y)
  | .agg x => k (.agg x)
  | .tup x => k (.tup x)
  | .nils a b => k (.nils a b)
  | v => k v
theorem V.whnf_eq {α : Type} (v : V) (k : V → α) : V.whnf v k = k v := by cases v <;> rfl
def V.whnfL {α : Type} : List V → (List V → α) → α
  | [], k => k []
  | x :: xs, k => V.whnf x fun x => V.whnfL xs fun xs => k (x :: xs)
theorem V.whnfL_eq {α : Type} : ∀ (l : List V) (k : List V → α), V.whnfL l k = k l
  | [], k => rfl
  | x :: xs, k => by simp only [V.whnfL, V.whnf_eq, V.whnfL_eq xs]
/-! ### Values reckoned out ahead of their use -/
def forceN {α : Type} (n : Nat) (k : Nat → α) : α :=
  match n with
  | 0 => k 0
  | m + 1 => k (Nat.succ m)
theorem forceN_eq {α : Type} (n : Nat) (k : Nat → α) : forceN n k = k n := by cases n <;> rfl
def forceI {α : Type} (n : Int) (k : Int → α) : α :=
  match n with
  | .ofNat m => forceN m fun m => k (.ofNat m)
  | .negSucc m => forceN m fun m => k (.negSucc m)
theorem forceI_eq {α : Type} (n : Int) (k : Int → α) : forceI n k = k n := by cases n <;> simp [forceI, forceN_eq]
def forceBs {α : Type} : List UInt8 → (List UInt8 → α) → α
  | [], k => k []
  | x :: xs, k => forceBs xs fun xs => k (x :: xs)
theorem forceBs_eq {α : Type} : ∀ (l : List UInt8) (k : List UInt8 → α), forceBs l k = k l
  | [], k => rfl
  | x :: xs, k => by simp only [forceBs, forceBs_eq xs]
def forceB {α : Type} (b : Bool) (k : Bool → α) : α := match b with | true => k true | false => k false
theorem forceB_eq {α : Type} (b : Bool) (k : Bool → α) : forceB b k = k b := by cases b <;> rfl
mutual
def V.force {α : Type} : V → (V → α) → α
  | .bool b, k => forceB b fun b => k (.bool b)
  | .int d n, k => forceI n fun n => k (.int d n)
  | .flt d n, k => forceN n fun n => k (.flt d n)
  | .str s, k => forceBs s fun s => k (.str s)
  | .sl s x, k => V.forceL x fun x => k (.sl s x)
  | .cap s x, k => V.forceL x fun x => k (.cap s x)
  | .slen n, k => forceN n fun n => k (.slen n)
  | .own e s x, k => V.forceL x fun x => k (.own e s x)
  | .msl a b c d, k => forceN a fun a => forceN b fun b => forceN c fun c => k (.msl a b c d)
  | .ref a b, k => forceN a fun a => forceN b fun b => k (.ref a b)
  | .imm x, k => V.forceL x fun x => k (.imm x)
  | .map a, k => forceN a fun a => k (.map a)
  | .iface t v, k => V.force v fun v => k (.iface t v)
  | .agg x, k => V.forceL x fun x => k (.agg x)
  | .tup x, k => V.forceL x fun x => k (.tup x)
  | .func f x y, k => V.forceL x fun x => V.forceL y fun y => k (.func f x y)
  | v, k => k v
def V.forceL {α : Type} : List V → (List V → α) → α
  | [], k => k []
  | x :: xs, k => V.force x fun x => V.forceL xs fun xs => k (x :: xs)
end
mutual
theorem V.force_eq {α : Type} : ∀ (v : V) (k : V → α), V.force v k = k v
  | .bool b, k => by simp [V.force, forceB_eq]
  | .int d n, k => by simp [V.force, forceI_eq]
  | .flt d n, k => by simp [V.force, forceN_eq]
  | .cpx _ _ _, k => by simp [V.force]
  | .str s, k => by simp [V.force, forceBs_eq]
  | .sl s x, k => by simp [V.force, V.forceL_eq x]
  | .cap s x, k => by simp [V.force, V.forceL_eq x]
  | .slen n, k => by simp [V.force, forceN_eq]
  | .own e s x, k => by simp [V.force, V.forceL_eq x]
  | .pri _ _ _ _, k => by simp [V.force]
  | .raw _, k => by simp [V.force]
  | .nils _ _, k => by simp [V.force]
  | .msl a b c d, k => by simp [V.force, forceN_eq]
  | .ref a b, k => by simp [V.force, forceN_eq]
  | .imm x, k => by simp [V.force, V.forceL_eq x]
  | .nilp, k => by simp [V.force]
  | .map a, k => by simp [V.force, forceN_eq]
  | .nilm, k => by simp [V.force]
  | .func f x y, k => by simp [V.force, V.forceL_eq x, V.forceL_eq y]
  | .nilf, k => by simp [V.force]
  | .iface t v, k => by simp [V.force, V.force_eq v]
  | .nili, k => by simp [V.force]
  | .agg x, k => by simp [V.force, V.forceL_eq x]
  | .tup x, k => by simp [V.force, V.forceL_eq x]
  | .top, k => by simp [V.force]
theorem V.forceL_eq {α : Type} : ∀ (x : List V) (k : List V → α), V.forceL x k = k x
  | [], k => by simp [V.forceL]
  | x :: xs, k => by simp [V.forceL, V.force_eq x, V.forceL_eq xs]
end
/-- The slots, not what they hold. -/
def forceE {α : Type} : Env → (Env → α) → α
  | [], k => k []
  | (i, v) :: r, k => forceE r fun r => k ((i, v) :: r)
theorem forceE_eq {α : Type} : ∀ (e : Env) (k : Env → α), forceE e k = k e
  | [], k => rfl
  | (i, v) :: r, k => by simp only [forceE, forceE_eq r]
def forceEV {α : Type} : Env → (Env → α) → α
  | [], k => k []
  | (i, v) :: r, k => V.whnf v fun v => forceEV r fun r => k ((i, v) :: r)
theorem forceEV_eq {α : Type} : ∀ (e : Env) (k : Env → α), forceEV e k = k e
  | [], k => rfl
  | (i, v) :: r, k => by simp only [forceEV, V.whnf_eq, forceEV_eq r]
def forceMap {α : Type} : List (V × V) → (List (V × V) → α) → α
  | [], k => k []
  | (a, b) :: r, k => V.force a fun a => V.force b fun b => forceMap r fun r => k ((a, b) :: r)
theorem forceMap_eq {α : Type} : ∀ (e : List (V × V)) (k : List (V × V) → α), forceMap e k = k e
  | [], k => rfl
  | (a, b) :: r, k => by simp only [forceMap, V.force_eq, forceMap_eq r]
def AObj.force {α : Type} (o : AObj) (k : AObj → α) : α :=
  match o with
  | .cells t x => forceN t fun t => V.forceL x fun x => k (.cells t x)
  | .map es => forceMap es fun es => k (.map es)
  | .siter s p => forceBs s fun s => forceN p fun p => k (.siter s p)
  | o => k o
theorem AObj.force_eq {α : Type} (o : AObj) (k : AObj → α) : AObj.force o k = k o := by cases o <;> simp [AObj.force, forceN_eq, V.forceL_eq, forceMap_eq, forceBs_eq]
/-- One object; the list up to it. -/
def forceAt {α : Type} : Nat → H → (H → α) → α
  | _, [], k => k []
  | 0, o :: r, k => AObj.force o fun o => k (o :: r)
  | n + 1, o :: r, k => forceAt n r fun r => k (o :: r)
theorem forceAt_eq {α : Type} : ∀ (n : Nat) (h : H) (k : H → α), forceAt n h k = k h
  | 0, [], k => rfl
  | _ + 1, [], k => rfl
  | 0, o :: r, k => by simp only [forceAt, AObj.force_eq]
  | n + 1, o :: r, k => by simp only [forceAt, forceAt_eq n r]
def forceH {α : Type} : H → (H → α) → α
  | [], k => k []
  | o :: r, k => forceH r fun r => k (o :: r)
theorem forceH_eq {α : Type} : ∀ (h : H) (k : H → α), forceH h k = k h
  | [], k => rfl
  | o :: r, k => by simp only [forceH, forceH_eq r]
/-- The last slot's value, known. -/
def EnvX.headF {α : Type} (x : EnvX) (k : Env → Env → α) : α :=
  match x with
  | .mk t b => (match t with
    | [] => k [] b
    | p :: t => V.whnf p.2 fun u => k ((p.1, u) :: t) b)
theorem EnvX.headF_eq {α : Type} (t b : Env) (k : Env → Env → α) : EnvX.headF (.mk t b) k = k t b := by
  cases t with
  | nil => rfl
  | cons p t => simp only [EnvX.headF, V.whnf_eq]
end
end Go.Proofs.YtiigffdmjdooeaaGreatDoor.Pv
set_option linter.unusedVariables false
set_option linter.unusedSimpArgs false
namespace Go.Proofs.YtiigffdmjdooeaaGreatDoor.Pv
open Go Go.Proofs

/-- A slot into which a call goes that changes things. -/
def tkM (tk : List Nat) : Option Nat → Bool
  | some d => tk.contains (d + 2000000)
  | none => false
/-- A load that moves, a store. -/
def isMC (tk : List Nat) (o : Oper) : Bool :=
  match o.op with
  | .load _ _ => tkB tk o.dst
  | .store _ _ _ => true
  | .call _ => tkM tk o.dst
  | _ => false
/-- One load moves, and nothing else goes into such a slot. -/
def oneMC (tk T : List Nat) (ops : List Oper) : Bool :=
  (List.range ops.length).all fun i => match ops[i]? with
    | some o => (isMC tk o || !tkB tk o.dst || (takeT tk T o).isSome) && (!isMC tk o || (o.guard.isNone && (List.range ops.length).all fun j => (j == i) || match ops[j]? with | some oj => !isMC tk oj | none => true))
    | none => true
section
variable (ty : Nat → Ty) (C : CallP) (n : Nat) (tk : List Nat) (T : List Nat) (ops : List Oper) (h h1 : H)
def pureRMC (m : Bool) (r r1 : Res) (o : Oper) (e : Env) (K : Env → Prop) : Prop :=
  match m, r, r1 with
  | true, .val p v e' h', _ => isM tk o = true ∧ p ∧ e' = e ∧ h' = h1 ∧ dstOk n o.dst ∧ K (putD o.dst e v)
  | true, .call f args, _ => dstOk n o.dst ∧ ∃ v, (∀ Q : Out → H → Prop, Q (.ret v) h1 → C f args h Q) ∧ K (putD o.dst e v)
  | false, .val p v e' h', .val p2 v2 e2 h2 => p ∧ (takeT tk T o = none → e' = e) ∧ h' = h ∧ p2 ∧ v2 = v ∧ (takeT tk T o = none → e2 = e) ∧ h2 = h1 ∧ dstOk n o.dst ∧ K (putD o.dst e v)
  | false, .call f args, .call f2 args2 => f2 = f ∧ args2 = args ∧ ∃ v, (∀ Q : Out → H → Prop, Q (.ret v) h → C f args h Q) ∧ (∀ Q : Out → H → Prop, Q (.ret v) h1 → C f args h1 Q) ∧ dstOk n o.dst ∧ K (putD o.dst e v)
  | _, _, _ => False
def pureKMC (want : Option Bool) (o : Oper) (e : Env) (K : Env → Prop) : Prop :=
  match want with
  | some true => pureRMC C n tk T h h1 (isMC tk o) (aop ty tk o e h) (aop ty tk o e h1) o e K
  | some false => dstOk n o.dst ∧ K (putD o.dst e (.tup []))
  | none => False
def evalPureMC : List Oper → (Env → Prop) → Env → Prop
  | [], K => K
  | o :: os, K => fun e => pureKMC ty C n tk T h h1 (wanted ops o e) o e (evalPureMC os K)
def StepAtMC (o : Oper) (e : Env) (v : V) : Prop := dstOk n o.dst ∧ ((wanted ops o e = some false ∧ v = .tup []) ∨ (wanted ops o e = some true ∧ isMC tk o = true ∧ ((isM tk o = true ∧ ∃ p, aop ty tk o e h = .val p v e h1 ∧ p) ∨ ∃ f args, aop ty tk o e h = .call f args ∧ ∀ Q : Out → H → Prop, Q (.ret v) h1 → C f args h Q)) ∨
  (wanted ops o e = some true ∧ isMC tk o = false ∧ ((takeT tk T o = none ∧ ∃ p p2, aop ty tk o e h = .val p v e h ∧ p ∧ aop ty tk o e h1 = .val p2 v e h1 ∧ p2) ∨
    (∃ s p e1 p2 e2, takeT tk T o = some s ∧ aop ty tk o e h = .val p v e1 h ∧ p ∧ aop ty tk o e h1 = .val p2 v e2 h1 ∧ p2) ∨
    (∃ f args, aop ty tk o e h = .call f args ∧ aop ty tk o e h1 = .call f args ∧ (∀ Q : Out → H → Prop, Q (.ret v) h → C f args h Q) ∧ ∀ Q : Out → H → Prop, Q (.ret v) h1 → C f args h1 Q))))
end
section
variable {ty : Nat → Ty} {C : CallP} {n : Nat} {tk : List Nat} {T : List Nat} {ops : List Oper} {h h1 : H} {o : Oper} {e e' : Env}

theorem pureKMC_step {K : Env → Prop} (hp : pureKMC ty C n tk T h h1 (wanted ops o e) o e K) : ∃ v, StepAtMC ty C n tk T ops h h1 o e v ∧ K (putD o.dst e v) := by
  unfold pureKMC at hp
  cases hw : wanted ops o e with
  | none => rw [hw] at hp; exact hp.elim
  | some b =>
    rw [hw] at hp
    cases b with
    | false => exact ⟨.tup [], ⟨hp.1, .inl ⟨hw, rfl⟩⟩, hp.2⟩
    | true =>
      simp only [] at hp
      unfold pureRMC at hp
      split at hp
      · rename_i p v e1 hx hm ha
        obtain ⟨k0, k1, rfl, rfl, k4, k5⟩ := hp
        exact ⟨v, ⟨k4, .inr (.inl ⟨hw, hm, .inl ⟨k0, p, ha, k1⟩⟩)⟩, k5⟩
      · rename_i f args hm ha
        obtain ⟨k1, v, k2, k3⟩ := hp
        exact ⟨v, ⟨k1, .inr (.inl ⟨hw, hm, .inr ⟨f, args, ha, k2⟩⟩)⟩, k3⟩
      · rename_i p v e1 hx p2 v2 e2 hx2 hm ha hb
        obtain ⟨k1, k2, rfl, k4, rfl, k6, rfl, k8, k9⟩ := hp
        cases ht : takeT tk T o with
        | none =>
          obtain rfl := k2 ht
          obtain rfl := k6 ht
          exact ⟨v2, ⟨k8, .inr (.inr ⟨hw, hm, .inl ⟨ht, p, p2, ha, k1, hb, k4⟩⟩)⟩, k9⟩
        | some s => exact ⟨v2, ⟨k8, .inr (.inr ⟨hw, hm, .inr (.inl ⟨s, p, e1, p2, e2, ht, ha, k1, hb, k4⟩)⟩)⟩, k9⟩
      · rename_i f args f2 args2 hm ha hb
        obtain ⟨rfl, rfl, v, k1, k2, k3, k4⟩ := hp
        exact ⟨v, ⟨k3, .inr (.inr ⟨hw, hm, .inr (.inr ⟨_, _, ha, hb, k1, k2⟩)⟩)⟩, k4⟩
      · exact hp.elim
theorem evalPureMC_trace {K : Env → Prop} : ∀ (l : List Oper) (e : Env), evalPureMC ty C n tk T ops h h1 l K e →
    ∃ vals : List V, vals.length = l.length ∧ (∀ i o v, l[i]? = some o → vals[i]? = some v → StepAtMC ty C n tk T ops h h1 o (putsL e (l.take i) (vals.take i)) v) ∧ K (putsL e l vals)
  | [], e, hp => ⟨[], rfl, fun i o v ho => by simp at ho, hp⟩
  | o :: os, e, hp => by
    obtain ⟨v, hs, hk⟩ := pureKMC_step hp
    obtain ⟨vals, hl, hst, hK⟩ := evalPureMC_trace os _ hk
    refine ⟨v :: vals, by simp [hl], fun i o' v' ho hv => ?_, hK⟩
    cases i with
    | zero => simp at ho hv; subst ho; subst hv; exact hs
    | succ i => simp at ho hv; exact hst i o' v' ho hv
theorem oneMC_at (ho : oneMC tk T ops = true) {i : Nat} (hi : ops[i]? = some o) : (isMC tk o = false → takeT tk T o = none → tkB tk o.dst = false) ∧ (isMC tk o = true → o.guard = none ∧ ∀ (j : Nat) (oj : Oper), ops[j]? = some oj → j ≠ i → isMC tk oj = false) := by
  unfold oneMC at ho
  have h1 := List.all_eq_true.1 ho i (List.mem_range.2 (List.getElem?_eq_some_iff.1 hi).1)
  rw [hi] at h1
  simp only [Bool.and_eq_true, Bool.or_eq_true, Bool.not_eq_true'] at h1
  refine ⟨fun hm hn => ?_, fun hm => ?_⟩
  · rcases h1.1 with (h | h) | h
    · rw [hm] at h; cases h
    · exact h
    · rw [hn] at h; cases h
  · rcases h1.2 with h | ⟨h, k⟩
    · rw [hm] at h; cases h
    · refine ⟨by simpa using h, fun j oj hj hne => ?_⟩
      have := List.all_eq_true.1 k j (List.mem_range.2 (List.getElem?_eq_some_iff.1 hj).1)
      rw [hj] at this
      simpa [hne] using this

theorem any_of_pureMC (ho : ordB [] ops = true) (hom : oneMC tk T ops = true) (hnone : (∀ (i : Nat) (o : Oper), ops[i]? = some o → isMC tk o = false) → h = h1) {ks : List Nat} {e0 : Env} (hkb : keptB ops ks e0.keys = true) (htb : takeB tk T ops ks = true) {P : Env → Prop} {X : V → Env → H → Prop} (hp : evalPureMC ty C n tk T ops h h1 ops P e0) :
    evalAny ty C n tk ops (fun e h' => h' = h1 ∧ Beside (tk := tk) T ops ks e0 P e) X ops.length (Array.replicate ops.length false) e0 h := by
  obtain ⟨vals, hvl, hst, hK⟩ := evalPureMC_trace ops e0 hp
  have hnd : (e0.kept ks).Nodup := by
    unfold keptB at hkb
    simp only [Bool.and_eq_true, decide_eq_true_eq] at hkb
    exact hkb.1
  have hkf : (putsL e0 ops vals).kept ks = e0.kept ks := by
    have : ∀ (l : List Oper) (us : List V) (e : Env), (∀ o ∈ l, o ∈ ops) → e.kept ks = e0.kept ks → (putsL e l us).kept ks = e0.kept ks := by
      intro l
      induction l with
      | nil => intro us e _ he; exact he
      | cons o os ih =>
        intro us e hm he
        cases us with
        | nil => exact he
        | cons u us =>
          simp only [putsL]
          refine ih us _ (fun o' ho' => hm o' (List.mem_cons_of_mem _ ho')) ?_
          obtain ⟨i, hi⟩ := List.getElem?_of_mem (hm o List.mem_cons_self)
          obtain ⟨d, l', hO⟩ := ord_one ho hi
          exact kept_step hkb hi hO he (.inl rfl)
    exact this ops vals e0 (fun o ho => ho) rfl
  unfold takeB at htb
  simp only [Bool.and_eq_true] at htb
  have htk : ∀ (i : Nat) (o : Oper) (s : Nat), ops[i]? = some o → takeT tk T o = some s → ¬ ks.contains s = true ∧ ∀ (j : Nat) (oj : Oper) (l : List Nat), ops[j]? = some oj → reads oj = some l → j ≠ i → s ∉ l ++ gslots ops oj := by
    intro i o s hi ht
    obtain ⟨_, hc⟩ := takeT_of ht
    refine ⟨fun hk => ?_, fun j oj l hj hr hne hm => ?_⟩
    · have := List.all_eq_true.1 htb.1 s (List.contains_iff_mem.1 hc)
      rw [hk] at this; cases this
    · have h1 := List.all_eq_true.1 htb.2 i (List.mem_range.2 (List.getElem?_eq_some_iff.1 hi).1)
      rw [hi] at h1
      simp only [Option.bind_some, ht] at h1
      have h2 := List.all_eq_true.1 h1 j (List.mem_range.2 (List.getElem?_eq_some_iff.1 hj).1)
      rw [hj] at h2
      simp only [hr, Option.getD_some, Bool.or_eq_true, beq_iff_eq, hne, false_or, Bool.not_eq_true'] at h2
      rw [List.contains_iff_mem.2 hm] at h2
      cases h2
  have hend : ∀ (listed : Array Bool) (e g : Env), AnyInv ops vals ks e0 listed g → Shade (tk := tk) T ops ks e0 listed e g → (∀ j, j < ops.length → listed.getD j false = true) → Beside (tk := tk) T ops ks e0 P e := by
    intro listed e g inv sh hall
    have hsame : ∀ x, g.get x = (putsL e0 ops vals).get x := by
      intro x
      by_cases hw : ∃ (j : Nat) (oj : Oper), ops[j]? = some oj ∧ oj.dst = some x
      · obtain ⟨j, oj, hj, hdj⟩ := hw
        have hjl := (List.getElem?_eq_some_iff.1 hj).1
        have hjv : j < vals.length := by omega
        obtain ⟨dj, lj, hOj⟩ := ord_one ho hj
        rw [inv.done j oj x vals[j] hj hdj (hall j hjl) (List.getElem?_eq_getElem hjv)]
        refine (putsL_some ops vals e0 j oj _ hj hdj (List.getElem?_eq_getElem hjv) fun k o' hk hdk => ?_).symm
        apply Classical.byContradiction
        intro hkj
        have := (hOj.other k o' x hk hdk hkj).1
        have hd2 := hOj.dst; rw [hdj] at hd2
        exact this hd2
      · have hno : ∀ (k : Nat) (o' : Oper), ops[k]? = some o' → o'.dst ≠ some x := fun k o' hk hdk => hw ⟨k, o', hk, hdk⟩
        rw [inv.rest x fun k ok hk hdk => absurd hdk (hno k ok hk)]
        exact (putsL_none _ _ _ hno).symm
    exact ⟨_, hK, hkf, sh.kept, fun x hx => by rw [sh.same x (fun i o hi _ => hx i o hi), hsame x]⟩
  let HP : Array Bool → H → Prop := fun listed hp => (hp = h ∧ ∀ (i : Nat) (o : Oper), ops[i]? = some o → isMC tk o = true → listed.getD i false = false) ∨ (hp = h1 ∧ ∃ (i : Nat) (o : Oper), ops[i]? = some o ∧ isMC tk o = true ∧ listed.getD i false = true)
  have hpend : ∀ (listed : Array Bool) (hp : H), HP listed hp → (∀ j, j < ops.length → listed.getD j false = true) → hp = h1 := by
    rintro listed hp (⟨rfl, hx⟩ | ⟨rfl, _⟩) hall
    · refine hnone fun i o hi => ?_
      cases hm : isMC tk o with
      | false => rfl
      | true =>
        have h2 := hx i o hi hm
        have h3 := hall i (List.getElem?_eq_some_iff.1 hi).1
        rw [h2] at h3; cases h3
    · rfl
  have main : ∀ (k : Nat) (listed : Array Bool) (e g : Env) (hp : H), HP listed hp → AnyInv ops vals ks e0 listed g → Shade (tk := tk) T ops ks e0 listed e g → listed.toList.count false = k → evalAny ty C n tk ops (fun e h' => h' = h1 ∧ Beside (tk := tk) T ops ks e0 P e) X k listed e hp := by
    intro k
    induction k with
    | zero =>
      intro listed e g hp hhp inv sh hc
      have hall : ∀ j, j < ops.length → listed.getD j false = true := by
        intro j hj
        have hjl : j < listed.size := by rw [inv.size]; exact hj
        have hne := List.count_eq_zero.1 hc
        simp only [Array.getD_eq_getD_getElem?, Array.getElem?_eq_getElem hjl, Option.getD_some]
        cases hb : listed[j] with
        | true => rfl
        | false => exact absurd (by rw [← hb]; exact Array.getElem_mem_toList hjl) hne
      refine ⟨?_, hpend listed hp hhp hall, hend listed e g inv sh hall⟩
      rw [List.eq_nil_iff_forall_not_mem]
      intro j hj
      rw [mem_ready] at hj
      obtain ⟨h0, o, hoj, _⟩ := hj
      have hjl : j < ops.length := by have := (Array.getElem?_eq_some_iff.1 hoj).1; simpa using this
      have h9 := hall j hjl
      have hjl' : j < listed.size := by rw [inv.size]; exact hjl
      simp only [Array.getD_eq_getD_getElem?, Array.getElem?_eq_getElem hjl', Option.getD_some] at h0 h9
      rw [h0] at h9; cases h9
    | succ k ih =>
      intro listed e g hp hhp inv sh hc
      refine ⟨fun hr => ⟨hpend listed hp hhp (all_listed ho inv.size hr), hend listed e g inv sh (all_listed ho inv.size hr)⟩, fun i hi => ?_⟩
      rw [mem_ready] at hi
      obtain ⟨hun, o, hoi, hrd⟩ := hi
      have hoi' : ops[i]? = some o := by simpa using hoi
      have hil := (List.getElem?_eq_some_iff.1 hoi').1
      obtain ⟨d, l, hO⟩ := ord_one ho hoi'
      have hiv : i < vals.length := by omega
      have hv := List.getElem?_eq_getElem hiv
      have hli : i < listed.size := by rw [inv.size]; exact hil
      have hrdG := inv_reads ho hvl inv hoi' hO hun hrd
      have hrdS : ∀ x ∈ l ++ gslots ops o, (putsL e0 (ops.take i) (vals.take i)).get x = e.get x := by
        intro x hx
        rw [hrdG x hx]
        refine (sh.same x fun j oj hj hlj ht => ?_).symm
        have hji : i ≠ j := by
          rintro rfl
          have hun' : listed.getD i false = false := by
            simp only [Array.getD_eq_getD_getElem?, Array.getElem?_eq_getElem hli, Option.getD_some] at hun ⊢; exact hun
          rw [hun'] at hlj; cases hlj
        exact (htk j oj x hj ht).2 i o l hoi' hO.reads hji hx
      obtain ⟨hdst, hcase⟩ := hst i o vals[i] hoi' hv
      have hcnt : (listed.setIfInBounds i true).toList.count false = k := by
        have hun' : listed.toList[i]? = some false := by
          simp only [Array.getD_eq_getD_getElem?, Array.getElem?_eq_getElem hli, Option.getD_some] at hun
          simp [hli, hun]
        have := count_set hun'
        rw [Array.toList_setIfInBounds]
        omega
      have hwc : wanted ops o (putsL e0 (ops.take i) (vals.take i)) = wanted ops o e := wanted_congr fun x hx => hrdS x (List.mem_append_right _ hx)
      have hinv := inv_step ho hvl hkb inv hoi' hO hun hrd hv (fun _ => rfl) (.inl rfl)
      -- the shade goes on
      have hsh : ∀ e2 : Env, (e2 = e ∨ ∃ k u, k ∈ l ∧ e2 = e.put k u) → (∀ x, takeT tk T o ≠ some x → e2.get x = e.get x) → Shade (tk := tk) T ops ks e0 (listed.setIfInBounds i true) (putD o.dst e2 vals[i]) (putD o.dst g vals[i]) := by
        intro e2 he2 hs2
        refine ⟨fun x hx => ?_, kept_step hkb hoi' hO sh.kept he2⟩
        by_cases hxd : o.dst = some x
        · rw [putD_self hxd, putD_self hxd]
        · rw [putD_ne hxd, putD_ne hxd, hs2 x (hx i o hoi' (by simp [hli]))]
          refine sh.same x fun j oj hj hlj => ?_
          by_cases hji : j = i
          · subst hji
            rw [hoi'] at hj; injection hj with hj; subst hj
            exact hx j o hoi' (by simp [hli])
          · exact hx j oj hj (getD_set_true hlj)
      have hun' : listed.getD i false = false := by
        simp only [Array.getD_eq_getD_getElem?, Array.getElem?_eq_getElem hli, Option.getD_some] at hun ⊢; exact hun
      have hhp0 : isMC tk o = false → HP (listed.setIfInBounds i true) hp := by
        intro hm
        rcases hhp with ⟨rfl, hx⟩ | ⟨rfl, j, oj, hj, hmj, hlj⟩
        · refine .inl ⟨rfl, fun j oj hj hmj => ?_⟩
          have hne : j ≠ i := fun e => by subst e; rw [hoi'] at hj; injection hj with hj; subst hj; rw [hm] at hmj; cases hmj
          have := hx j oj hj hmj
          simp only [Array.getD_eq_getD_getElem?] at this ⊢
          rwa [Array.getElem?_setIfInBounds_ne (fun h => hne h.symm)]
        · have hne : j ≠ i := fun e => by subst e; rw [hun'] at hlj; cases hlj
          refine .inr ⟨rfl, j, oj, hj, hmj, ?_⟩
          simp only [Array.getD_eq_getD_getElem?] at hlj ⊢
          rwa [Array.getElem?_setIfInBounds_ne (fun h => hne h.symm)]
      have hheap : hp = h ∨ hp = h1 := by
        rcases hhp with ⟨h, _⟩ | ⟨h, _⟩
        · exact .inl h
        · exact .inr h
      refine ⟨o, hoi', ?_⟩
      rcases hcase with ⟨hw, hvt⟩ | ⟨hw, hm, hcase⟩ | ⟨hw, hm, hcase⟩
      · have hm : isMC tk o = false := by
          cases hm : isMC tk o with
          | false => rfl
          | true =>
            have := ((oneMC_at hom hoi').2 hm).1
            simp [wanted, this] at hw
        rw [← hwc, hw, runOp_ff, ← hvt]
        exact ⟨hdst, ih _ _ _ hp (hhp0 hm) hinv (hsh e (.inl rfl) fun _ _ => rfl) hcnt⟩
      · -- the load that moves
        have hph : hp = h := by
          rcases hhp with ⟨h, _⟩ | ⟨_, j, oj, hj, hmj, hlj⟩
          · exact h
          · exfalso
            have hne : j ≠ i := fun e => by subst e; rw [hun'] at hlj; cases hlj
            have := ((oneMC_at hom hoi').2 hm).2 j oj hj hne
            rw [this] at hmj; cases hmj
        subst hph
        have hset : (listed.setIfInBounds i true).getD i false = true := by
          simp only [Array.getD_eq_getD_getElem?]
          rw [Array.getElem?_setIfInBounds_self_of_lt hli]; rfl
        rcases hcase with ⟨hml, p, ha, hpp⟩ | ⟨f, args, ha, hc1⟩
        · obtain ⟨e2, ha2, hsame, hex⟩ := loadM_congr hO.reads hml (fun x hx => hrdS x (List.mem_append_left _ hx)) ha
          rw [← hwc, hw, runOp_tt, ha2, upon_val]
          exact ⟨hpp, hdst, ih _ _ _ h1 (.inr ⟨rfl, i, o, hoi', hm, hset⟩) hinv (hsh e2 hex fun x _ => hsame x) hcnt⟩
        · have ha2 := aop_congr_call hO.reads (fun x hx => hrdS x (List.mem_append_left _ hx)) ha
          rw [← hwc, hw, runOp_tt, ha2, upon_call]
          exact ⟨hdst, hc1 _ (ih _ _ _ h1 (.inr ⟨rfl, i, o, hoi', hm, hset⟩) hinv (hsh e (.inl rfl) fun _ _ => rfl) hcnt)⟩
      · have htk0 := (oneMC_at hom hoi').1 hm
        rcases hcase with ⟨htn, p, p2, ha, hpp, hb, hpp2⟩ | ⟨s, p, e1, p2, e2, ht, ha, hpp, hb, hpp2⟩ | ⟨f, args, ha, hb, hc1, hc2⟩
        · rcases hheap with rfl | rfl
          · obtain ⟨e2, ha2, hsame, hex⟩ := aop_congr hO.reads (.inl (htk0 htn)) (fun x hx => hrdS x (List.mem_append_left _ hx)) ha
            rw [← hwc, hw, runOp_tt, ha2, upon_val]
            exact ⟨hpp, hdst, ih _ _ _ _ (hhp0 hm) hinv (hsh e2 hex fun x _ => hsame x) hcnt⟩
          · obtain ⟨e2, ha2, hsame, hex⟩ := aop_congr hO.reads (.inl (htk0 htn)) (fun x hx => hrdS x (List.mem_append_left _ hx)) hb
            rw [← hwc, hw, runOp_tt, ha2, upon_val]
            exact ⟨hpp2, hdst, ih _ _ _ _ (hhp0 hm) hinv (hsh e2 hex fun x _ => hsame x) hcnt⟩
        · rcases hheap with rfl | rfl
          · obtain ⟨hsl, u, ha2⟩ := take_congr hO.reads (takeT_of ht).1 (fun x hx => hrdS x (List.mem_append_left _ hx)) ha
            rw [← hwc, hw, runOp_tt, ha2, upon_val]
            refine ⟨hpp, hdst, ih _ _ _ _ (hhp0 hm) hinv (hsh _ (.inr ⟨s, u, hsl, rfl⟩) fun x hx => ?_) hcnt⟩
            have hxs : x ≠ s := fun hxs => hx (by rw [ht, hxs])
            exact get_put_ne hxs _ _
          · obtain ⟨hsl, u, ha2⟩ := take_congr hO.reads (takeT_of ht).1 (fun x hx => hrdS x (List.mem_append_left _ hx)) hb
            rw [← hwc, hw, runOp_tt, ha2, upon_val]
            refine ⟨hpp2, hdst, ih _ _ _ _ (hhp0 hm) hinv (hsh _ (.inr ⟨s, u, hsl, rfl⟩) fun x hx => ?_) hcnt⟩
            have hxs : x ≠ s := fun hxs => hx (by rw [ht, hxs])
            exact get_put_ne hxs _ _
        · rcases hheap with rfl | rfl
          · have ha2 := aop_congr_call hO.reads (fun x hx => hrdS x (List.mem_append_left _ hx)) ha
            rw [← hwc, hw, runOp_tt, ha2, upon_call]
            exact ⟨hdst, hc1 _ (ih _ _ _ _ (hhp0 hm) hinv (hsh e (.inl rfl) fun _ _ => rfl) hcnt)⟩
          · have ha2 := aop_congr_call hO.reads (fun x hx => hrdS x (List.mem_append_left _ hx)) hb
            rw [← hwc, hw, runOp_tt, ha2, upon_call]
            exact ⟨hdst, hc2 _ (ih _ _ _ _ (hhp0 hm) hinv (hsh e (.inl rfl) fun _ _ => rfl) hcnt)⟩
  refine main ops.length _ e0 e0 h (.inl ⟨rfl, fun i o _ _ => by simp only [Array.getD_eq_getD_getElem?, Array.getElem?_replicate]; split <;> rfl⟩) ⟨by simp, fun j o d v _ _ hs => ?_, fun x _ => rfl, fun j o _ hs => ?_, rfl⟩ ⟨fun _ _ => rfl, rfl⟩ (by simp)
  · simp only [Array.getD_eq_getD_getElem?, Array.getElem?_replicate] at hs; split at hs <;> simp at hs
  · simp only [Array.getD_eq_getD_getElem?, Array.getElem?_replicate] at hs; split at hs <;> simp at hs

/-- The last operation: a store of one slot behind another. -/
theorem wp_drawMSC (h1 : H) (T : List Nat) (hC : CMono C C) (k : Nat) {last : Oper} {t a x : Nat} {ks : List Nat} {id : Nat} {ops : List Oper} {Q : PostX} {e0 : Env} (hk : ops[k]? = some last) (hlen : ops.length = k + 1)
    (hop : last.op = .store t (.tmp a) (.tmp x)) (hg : last.guard = none) (hd : last.dst = none) (hax : (T.contains a || T.contains x || ks.contains x || a == x) = false)
    (ho : ordB [] (ops.take k) = true) (hom : oneMC tk T (ops.take k) = true) (hnone : (∀ (i : Nat) (o : Oper), (ops.take k)[i]? = some o → isMC tk o = false) → h = h1) (hkb : keptB (ops.take k) ks e0.keys = true) (htb : takeB tk T (ops.take k) ks = true) (hcov : coverB ops k = true) (hback : backB ops = true)
    (hp : evalPureMC ty C n tk T (ops.take k) h h1 (ops.take k) (fun g => stK ty t (g.get a).demote (g.get x) h1 fun h' => Q .normal (g.keep ks) h') e0) : wp ty C n ks tk (.region id ⟨ops⟩ true) Q e0 h := by
  simp only [wp, if_true]
  refine .inl ?_
  have hl : (ops.take k).length = k := by rw [List.length_take]; omega
  have hsplit : ops = ops.take k ++ [last] := by
    apply List.ext_getElem?
    intro i
    by_cases hi : i < k
    · rw [List.getElem?_append_left (by omega), List.getElem?_take, if_pos hi]
    · by_cases hi2 : i = k
      · subst hi2
        rw [List.getElem?_append_right (by omega), hk, hl]; simp
      · rw [List.getElem?_eq_none (by omega), List.getElem?_eq_none (by simp; omega)]
  simp only [Bool.or_eq_false_iff, beq_eq_false_iff_ne, ne_eq] at hax
  obtain ⟨⟨⟨hTa, hTx⟩, hkx⟩, hne⟩ := hax
  have hG := any_of_pureMC (C := C) (X := panQ Q) ho hom hnone hkb htb hp
  have hnd : (e0.kept ks).Nodup := by
    unfold keptB at hkb
    simp only [Bool.and_eq_true, decide_eq_true_eq] at hkb
    exact hkb.1
  have hlast : ∀ (e : Env) (h2 : H), (h2 = h1 ∧ Beside (tk := tk) T (ops.take k) ks e0 (fun g => stK ty t (g.get a).demote (g.get x) h1 fun h' => Q .normal (g.keep ks) h') e) →
      runOp ty C n tk (wanted (ops.take k ++ [last]) last e) last e h2 (fun env h => Q .normal (env.keep ks) h) (panQ Q) := by
    rintro e h0 ⟨rfl, g, hP, k1, k2, k3⟩
    have hw : wanted (ops.take k ++ [last]) last e = some true := by simp only [wanted, hg]
    have hnt : ∀ y, T.contains y = false → ∀ (i : Nat) (o : Oper), (ops.take k)[i]? = some o → takeT tk T o ≠ some y := by
      intro y hy i o hi ht
      have := (takeT_of ht).2
      rw [hy] at this; cases this
    have ha : e.get a = g.get a := k3 a (hnt a hTa)
    have hx : e.get x = g.get x := k3 x (hnt x hTx)
    have hkeep : ∀ v, (e.put x v).keep ks = g.keep ks := by
      intro v
      have hkp : (e.put x v).kept ks = e0.kept ks := by
        rw [kept_put v fun hc => by rw [hkx] at hc; cases hc]; exact k2
      rw [keep_eq ks _ (by rw [hkp]; exact hnd), hkp, keep_eq ks g (by rw [k1]; exact hnd), k1]
      refine List.map_congr_left fun y hy => ?_
      have hyk := (List.mem_filter.1 hy).2
      rw [get_put_ne (fun hyx => by subst hyx; rw [hkx] at hyk; cases hyk), k3 y fun i o hi ht => takeB_kept htb hi ht hyk]
    rw [hw, runOp_tt]
    have hao : aop ty tk last e h0 = store ty t (e.get a).demote (e.get x) (e.put x (e.get x).demote) h0 := by
      unfold aop
      rw [hop]
      rfl
    rw [hao, ha, hx]
    exact store_upon hd hP fun h' hq => by rw [hkeep]; exact hq
  have := any_app hC ho (last := last) (by rw [hl, ← hsplit]; exact hcov) (by rw [← hsplit]; exact hback) hlast (ops.take k).length (Array.replicate (ops.take k).length false) e0 h (by simp) (fun i o hi hl _ _ _ => by simp [Array.getD_eq_getD_getElem?, Array.getElem?_replicate] at hl; split at hl <;> simp at hl) hG
  rw [← hsplit, hl] at this
  have e2 : (Array.replicate k false).push false = Array.replicate ops.length false := by
    rw [hlen]; apply Array.toList_inj.1; simp [List.replicate_succ']
  rw [e2, ← hlen] at this
  exact this

theorem wp_drawMC (h1 : H) (T : List Nat) (hC : CMono C C) {ks : List Nat} {id : Nat} {l : List Oper} {Q : PostX} {e0 : Env} (ho : ordB [] l = true) (hom : oneMC tk T l = true) (hnone : (∀ (i : Nat) (o : Oper), l[i]? = some o → isMC tk o = false) → h = h1) (hkb : keptB l ks e0.keys = true) (htb : takeB tk T l ks = true)
    (hp : evalPureMC ty C n tk T l h h1 l (fun e => Q .normal (e.keep ks) h1) e0) : wp ty C n ks tk (.region id ⟨l⟩ true) Q e0 h := by
  simp only [wp, if_true]
  refine .inl ?_
  have := any_of_pureMC (C := C) (X := panQ Q) ho hom hnone hkb htb hp
  have hnd : (e0.kept ks).Nodup := by
    unfold keptB at hkb
    simp only [Bool.and_eq_true, decide_eq_true_eq] at hkb
    exact hkb.1
  refine evalAny_mono hC (fun e h' hk => ?_) (fun v env h hx => hx) _ _ _ _ this
  obtain ⟨rfl, g, hP, k1, k2, k3⟩ := hk
  show Q .normal (e.keep ks) h'
  rw [keep_eq ks e (by rw [k2]; exact hnd), k2]
  rw [keep_eq ks g (by rw [k1]; exact hnd), k1] at hP
  rw [List.map_congr_left (g := fun k => (k, g.get k)) fun k hk => by rw [k3 k fun i o hi ht => takeB_kept htb hi ht (List.mem_filter.1 hk).2]]
  exact hP
end
end Go.Proofs.YtiigffdmjdooeaaGreatDoor.Pv
set_option linter.unusedVariables false
set_option linter.unusedSimpArgs false
namespace Go.Proofs.YtiigffdmjdooeaaGreatDoor.Pv
open Go Go.Proofs

/-- Whether operation i may meet the heap behind the first k changes. -/
def allow (ms : List Nat) (need : List (List Nat)) (i k : Nat) : Bool :=
  (List.range ms.length).all fun j => match ms[j]? with
    | some m => (!((need[i]?).getD []).contains m || decide (j < k)) && (!((need[m]?).getD []).contains i || decide (k ≤ j))
    | none => true
/-- What is said to come ahead of an operation does so. -/
def needOK (ops : List Oper) (need : List (List Nat)) : Bool :=
  (List.range ops.length).all fun i => match ops[i]? with
    | some o => ((need[i]?).getD []).all fun j => o.after.toList.any fun a => Region.binds .any a && (a.on == j || ((need[a.on]?).getD []).contains j)
    | none => true
def chainOK (ms : List Nat) (need : List (List Nat)) : Bool :=
  (List.range ms.length).all fun k => (List.range k).all fun j => match ms[j]?, ms[k]? with
    | some a, some b => !(a == b) && ((need[b]?).getD []).contains a
    | _, _ => false
section
variable (ty : Nat → Ty) (C : CallP) (n : Nat) (tk : List Nat) (T : List Nat) (ops : List Oper) (ms : List Nat) (need : List (List Nat)) (hs : Nat → H)
def QuietAt (o : Oper) (e : Env) (v : V) (hp : H) : Prop :=
  (takeT tk T o = none ∧ tkB tk o.dst = false ∧ ∃ p, aop ty tk o e hp = .val p v e hp ∧ p) ∨ (∃ s p e1, takeT tk T o = some s ∧ aop ty tk o e hp = .val p v e1 hp ∧ p) ∨
    (∃ f args, aop ty tk o e hp = .call f args ∧ ∀ Q : Out → H → Prop, Q (.ret v) hp → C f args hp Q) ∨ isM tk o = true ∧ ∃ p, aop ty tk o e hp = .val p v e hp ∧ p
def MStep (o : Oper) (e : Env) (v : V) (ha hb : H) : Prop :=
  (isM tk o = true ∧ ∃ p, aop ty tk o e ha = .val p v e hb ∧ p) ∨ ∃ f args, aop ty tk o e ha = .call f args ∧ ∀ Q : Out → H → Prop, Q (.ret v) hb → C f args ha Q
def StepAtN (i : Nat) (o : Oper) (e : Env) (v : V) : Prop := dstOk n o.dst ∧ ((wanted ops o e = some false ∧ v = .tup [] ∧ ∀ k, ms[k]? = some i → hs (k + 1) = hs k) ∨
  (wanted ops o e = some true ∧ ∃ k, ms[k]? = some i ∧ MStep ty C tk o e v (hs k) (hs (k + 1))) ∨
  (wanted ops o e = some true ∧ i ∉ ms ∧ ∀ k, k ≤ ms.length → allow ms need i k = true → QuietAt ty C tk T o e v (hs k)))
end
section
variable {ty : Nat → Ty} {C : CallP} {n : Nat} {tk : List Nat} {T : List Nat} {ops : List Oper} {ms : List Nat} {need : List (List Nat)} {hs : Nat → H} {o : Oper} {e e' : Env}
theorem chain_need (hch : chainOK ms need = true) {j k a b : Nat} (hjk : j < k) (hj : ms[j]? = some a) (hk : ms[k]? = some b) : a ≠ b ∧ a ∈ (need[b]?).getD [] := by
  unfold chainOK at hch
  have h1 := List.all_eq_true.1 hch k (List.mem_range.2 (List.getElem?_eq_some_iff.1 hk).1)
  have h2 := List.all_eq_true.1 h1 j (List.mem_range.2 hjk)
  rw [hj, hk] at h2
  simp only [Bool.and_eq_true, Bool.not_eq_true', beq_eq_false_iff_ne] at h2
  exact ⟨h2.1, List.contains_iff_mem.1 h2.2⟩
theorem need_listed (ho : ordB [] ops = true) (hn : needOK ops need = true) {listed : Array Bool} (hsz : listed.size = ops.length)
    (hcl : ∀ (j : Nat) (o : Oper), ops[j]? = some o → listed.getD j false = true → ∀ a ∈ o.after, Region.binds .any a = true → listed.getD a.on false = true) :
    ∀ (i : Nat) (o : Oper), ops[i]? = some o → (∀ a ∈ o.after, Region.binds .any a = true → listed.getD a.on false = true) → ∀ j ∈ (need[i]?).getD [], listed.getD j false = true := by
  intro i
  induction i using Nat.strongRecOn with
  | ind i ih =>
    intro o hi hrd j hj
    unfold needOK at hn
    have h1 := List.all_eq_true.1 hn i (List.mem_range.2 (List.getElem?_eq_some_iff.1 hi).1)
    rw [hi] at h1
    have h2 := List.all_eq_true.1 h1 j hj
    obtain ⟨a, ha, hb⟩ := List.any_eq_true.1 h2
    simp only [Bool.and_eq_true, Bool.or_eq_true, beq_iff_eq] at hb
    have ha' : a ∈ o.after := by simpa using ha
    have hl := hrd a ha' hb.1
    rcases hb.2 with rfl | hm
    · exact hl
    · obtain ⟨d, l, hO⟩ := ord_one ho hi
      have hlt := hO.back a ha' hb.1
      have hal : a.on < ops.length := by have := (List.getElem?_eq_some_iff.1 hi).1; omega
      have hoa := List.getElem?_eq_getElem hal
      exact ih a.on hlt _ hoa (hcl _ _ hoa hl) j (List.contains_iff_mem.1 hm)

theorem any_of_N (ho : ordB [] ops = true) (hnk : needOK ops need = true) (hch : chainOK ms need = true) (hmr : ms.all (fun m => decide (m < ops.length)) = true) {ks : List Nat} {e0 : Env} (hkb : keptB ops ks e0.keys = true) (htb : takeB tk T ops ks = true) {P : Env → Prop} {X : V → Env → H → Prop}
    {vals : List V} (hvl : vals.length = ops.length) (hst : ∀ (i : Nat) (o : Oper) (v : V), ops[i]? = some o → vals[i]? = some v → StepAtN ty C n tk T ops ms need hs i o (putsL e0 (ops.take i) (vals.take i)) v) (hK : P (putsL e0 ops vals)) :
    evalAny ty C n tk ops (fun e h' => h' = hs ms.length ∧ Beside (tk := tk) T ops ks e0 P e) X ops.length (Array.replicate ops.length false) e0 (hs 0) := by
  have hnd : (e0.kept ks).Nodup := by
    unfold keptB at hkb
    simp only [Bool.and_eq_true, decide_eq_true_eq] at hkb
    exact hkb.1
  have hkf : (putsL e0 ops vals).kept ks = e0.kept ks := by
    have : ∀ (l : List Oper) (us : List V) (e : Env), (∀ o ∈ l, o ∈ ops) → e.kept ks = e0.kept ks → (putsL e l us).kept ks = e0.kept ks := by
      intro l
      induction l with
      | nil => intro us e _ he; exact he
      | cons o os ih =>
        intro us e hm he
        cases us with
        | nil => exact he
        | cons u us =>
          simp only [putsL]
          refine ih us _ (fun o' ho' => hm o' (List.mem_cons_of_mem _ ho')) ?_
          obtain ⟨i, hi⟩ := List.getElem?_of_mem (hm o List.mem_cons_self)
          obtain ⟨d, l', hO⟩ := ord_one ho hi
          exact kept_step hkb hi hO he (.inl rfl)
    exact this ops vals e0 (fun o ho => ho) rfl
  unfold takeB at htb
  simp only [Bool.and_eq_true] at htb
  have htk : ∀ (i : Nat) (o : Oper) (s : Nat), ops[i]? = some o → takeT tk T o = some s → ¬ ks.contains s = true ∧ ∀ (j : Nat) (oj : Oper) (l : List Nat), ops[j]? = some oj → reads oj = some l → j ≠ i → s ∉ l ++ gslots ops oj := by
    intro i o s hi ht
    obtain ⟨_, hc⟩ := takeT_of ht
    refine ⟨fun hk => ?_, fun j oj l hj hr hne hm => ?_⟩
    · have := List.all_eq_true.1 htb.1 s (List.contains_iff_mem.1 hc)
      rw [hk] at this; cases this
    · have h1 := List.all_eq_true.1 htb.2 i (List.mem_range.2 (List.getElem?_eq_some_iff.1 hi).1)
      rw [hi] at h1
      simp only [Option.bind_some, ht] at h1
      have h2 := List.all_eq_true.1 h1 j (List.mem_range.2 (List.getElem?_eq_some_iff.1 hj).1)
      rw [hj] at h2
      simp only [hr, Option.getD_some, Bool.or_eq_true, beq_iff_eq, hne, false_or, Bool.not_eq_true'] at h2
      rw [List.contains_iff_mem.2 hm] at h2
      cases h2
  have hend : ∀ (listed : Array Bool) (e g : Env), AnyInv ops vals ks e0 listed g → Shade (tk := tk) T ops ks e0 listed e g → (∀ j, j < ops.length → listed.getD j false = true) → Beside (tk := tk) T ops ks e0 P e := by
    intro listed e g inv sh hall
    have hsame : ∀ x, g.get x = (putsL e0 ops vals).get x := by
      intro x
      by_cases hw : ∃ (j : Nat) (oj : Oper), ops[j]? = some oj ∧ oj.dst = some x
      · obtain ⟨j, oj, hj, hdj⟩ := hw
        have hjl := (List.getElem?_eq_some_iff.1 hj).1
        have hjv : j < vals.length := by omega
        obtain ⟨dj, lj, hOj⟩ := ord_one ho hj
        rw [inv.done j oj x vals[j] hj hdj (hall j hjl) (List.getElem?_eq_getElem hjv)]
        refine (putsL_some ops vals e0 j oj _ hj hdj (List.getElem?_eq_getElem hjv) fun k o' hk hdk => ?_).symm
        apply Classical.byContradiction
        intro hkj
        have := (hOj.other k o' x hk hdk hkj).1
        have hd2 := hOj.dst; rw [hdj] at hd2
        exact this hd2
      · have hno : ∀ (k : Nat) (o' : Oper), ops[k]? = some o' → o'.dst ≠ some x := fun k o' hk hdk => hw ⟨k, o', hk, hdk⟩
        rw [inv.rest x fun k ok hk hdk => absurd hdk (hno k ok hk)]
        exact (putsL_none _ _ _ hno).symm
    exact ⟨_, hK, hkf, sh.kept, fun x hx => by rw [sh.same x (fun i o hi _ => hx i o hi), hsame x]⟩
  let HP : Array Bool → H → Prop := fun listed hp => ∃ c, c ≤ ms.length ∧ (∀ (j m : Nat), ms[j]? = some m → (listed.getD m false = true ↔ j < c)) ∧ hp = hs c
  have hpend : ∀ (listed : Array Bool) (hp : H), HP listed hp → (∀ j, j < ops.length → listed.getD j false = true) → hp = hs ms.length := by
    rintro listed hp ⟨c, hc, hx, rfl⟩ hall
    congr 1
    by_cases hlt : c < ms.length
    · have hm := List.getElem?_eq_getElem hlt
      have hmo : ms[c] < ops.length := of_decide_eq_true (List.all_eq_true.1 hmr _ (List.getElem_mem hlt))
      exact absurd ((hx c _ hm).1 (hall _ hmo)) (Nat.lt_irrefl c)
    · omega
  have main : ∀ (k : Nat) (listed : Array Bool) (e g : Env) (hp : H), HP listed hp → AnyInv ops vals ks e0 listed g → Shade (tk := tk) T ops ks e0 listed e g → listed.toList.count false = k → evalAny ty C n tk ops (fun e h' => h' = hs ms.length ∧ Beside (tk := tk) T ops ks e0 P e) X k listed e hp := by
    intro k
    induction k with
    | zero =>
      intro listed e g hp hhp inv sh hc
      have hall : ∀ j, j < ops.length → listed.getD j false = true := by
        intro j hj
        have hjl : j < listed.size := by rw [inv.size]; exact hj
        have hne := List.count_eq_zero.1 hc
        simp only [Array.getD_eq_getD_getElem?, Array.getElem?_eq_getElem hjl, Option.getD_some]
        cases hb : listed[j] with
        | true => rfl
        | false => exact absurd (by rw [← hb]; exact Array.getElem_mem_toList hjl) hne
      refine ⟨?_, hpend listed hp hhp hall, hend listed e g inv sh hall⟩
      rw [List.eq_nil_iff_forall_not_mem]
      intro j hj
      rw [mem_ready] at hj
      obtain ⟨h0, o, hoj, _⟩ := hj
      have hjl : j < ops.length := by have := (Array.getElem?_eq_some_iff.1 hoj).1; simpa using this
      have h9 := hall j hjl
      have hjl' : j < listed.size := by rw [inv.size]; exact hjl
      simp only [Array.getD_eq_getD_getElem?, Array.getElem?_eq_getElem hjl', Option.getD_some] at h0 h9
      rw [h0] at h9; cases h9
    | succ k ih =>
      intro listed e g hp hhp inv sh hc
      refine ⟨fun hr => ⟨hpend listed hp hhp (all_listed ho inv.size hr), hend listed e g inv sh (all_listed ho inv.size hr)⟩, fun i hi => ?_⟩
      rw [mem_ready] at hi
      obtain ⟨hun, o, hoi, hrd⟩ := hi
      have hoi' : ops[i]? = some o := by simpa using hoi
      have hil := (List.getElem?_eq_some_iff.1 hoi').1
      obtain ⟨d, l, hO⟩ := ord_one ho hoi'
      have hiv : i < vals.length := by omega
      have hv := List.getElem?_eq_getElem hiv
      have hli : i < listed.size := by rw [inv.size]; exact hil
      have hrdG := inv_reads ho hvl inv hoi' hO hun hrd
      have hrdS : ∀ x ∈ l ++ gslots ops o, (putsL e0 (ops.take i) (vals.take i)).get x = e.get x := by
        intro x hx
        rw [hrdG x hx]
        refine (sh.same x fun j oj hj hlj ht => ?_).symm
        have hji : i ≠ j := by
          rintro rfl
          have hun' : listed.getD i false = false := by
            simp only [Array.getD_eq_getD_getElem?, Array.getElem?_eq_getElem hli, Option.getD_some] at hun ⊢; exact hun
          rw [hun'] at hlj; cases hlj
        exact (htk j oj x hj ht).2 i o l hoi' hO.reads hji hx
      obtain ⟨hdst, hcase⟩ := hst i o vals[i] hoi' hv
      have hcnt : (listed.setIfInBounds i true).toList.count false = k := by
        have hun' : listed.toList[i]? = some false := by
          simp only [Array.getD_eq_getD_getElem?, Array.getElem?_eq_getElem hli, Option.getD_some] at hun
          simp [hli, hun]
        have := count_set hun'
        rw [Array.toList_setIfInBounds]
        omega
      have hwc : wanted ops o (putsL e0 (ops.take i) (vals.take i)) = wanted ops o e := wanted_congr fun x hx => hrdS x (List.mem_append_right _ hx)
      have hinv := inv_step ho hvl hkb inv hoi' hO hun hrd hv (fun _ => rfl) (.inl rfl)
      -- the shade goes on
      have hsh : ∀ e2 : Env, (e2 = e ∨ ∃ k u, k ∈ l ∧ e2 = e.put k u) → (∀ x, takeT tk T o ≠ some x → e2.get x = e.get x) → Shade (tk := tk) T ops ks e0 (listed.setIfInBounds i true) (putD o.dst e2 vals[i]) (putD o.dst g vals[i]) := by
        intro e2 he2 hs2
        refine ⟨fun x hx => ?_, kept_step hkb hoi' hO sh.kept he2⟩
        by_cases hxd : o.dst = some x
        · rw [putD_self hxd, putD_self hxd]
        · rw [putD_ne hxd, putD_ne hxd, hs2 x (hx i o hoi' (by simp [hli]))]
          refine sh.same x fun j oj hj hlj => ?_
          by_cases hji : j = i
          · subst hji
            rw [hoi'] at hj; injection hj with hj; subst hj
            exact hx j o hoi' (by simp [hli])
          · exact hx j oj hj (getD_set_true hlj)
      have hun' : listed.getD i false = false := by
        simp only [Array.getD_eq_getD_getElem?, Array.getElem?_eq_getElem hli, Option.getD_some] at hun ⊢; exact hun
      have hneed : ∀ m, m ∈ (need[i]?).getD [] → listed.getD m false = true := need_listed ho hnk inv.size inv.closed i o hoi' hrd
      have hback : ∀ (m : Nat) (om : Oper), ops[m]? = some om → listed.getD m false = true → i ∉ (need[m]?).getD [] := fun m om hm hl hmem => by
        have := need_listed ho hnk inv.size inv.closed m om hm (inv.closed m om hm hl) i hmem
        rw [hun'] at this; cases this
      obtain ⟨c, hcl, hcx, rfl⟩ := hhp
      have hmo : ∀ (j m : Nat), ms[j]? = some m → ∃ om, ops[m]? = some om := fun j m hj => by
        have : m < ops.length := of_decide_eq_true (List.all_eq_true.1 hmr _ (List.mem_of_getElem? hj))
        exact ⟨_, List.getElem?_eq_getElem this⟩
      have hset : (listed.setIfInBounds i true).getD i false = true := by
        simp only [Array.getD_eq_getD_getElem?]
        rw [Array.getElem?_setIfInBounds_self_of_lt hli]; rfl
      have hoth : ∀ m, m ≠ i → (listed.setIfInBounds i true).getD m false = listed.getD m false := fun m hm => by
        simp only [Array.getD_eq_getD_getElem?]
        rw [Array.getElem?_setIfInBounds_ne (fun h => hm h.symm)]
      -- what changes nothing
      have hq0 : i ∉ ms → HP (listed.setIfInBounds i true) (hs c) := fun hni => by
        refine ⟨c, hcl, fun j m hj => ?_, rfl⟩
        rw [hoth m (fun e => hni (e ▸ List.mem_of_getElem? hj))]
        exact hcx j m hj
      -- what changes the heap has just this one ahead of it
      have hmc : ∀ k, ms[k]? = some i → c = k ∧ HP (listed.setIfInBounds i true) (hs (k + 1)) := by
        intro k hk
        have hkl := (List.getElem?_eq_some_iff.1 hk).1
        have h1 : ¬ k < c := fun h => by rw [(hcx k i hk).2 h] at hun'; cases hun'
        have h2 : ¬ c < k := fun h => by
          have hcm := List.getElem?_eq_getElem (Nat.lt_trans h hkl)
          have := hneed _ (chain_need hch h hcm hk).2
          exact absurd ((hcx c _ hcm).1 this) (Nat.lt_irrefl c)
        have e : c = k := by omega
        subst e
        refine ⟨rfl, c + 1, by omega, fun j m hj => ?_, rfl⟩
        by_cases hjc : j = c
        · subst hjc
          rw [hk] at hj; injection hj with hj; subst hj
          exact ⟨fun _ => by omega, fun _ => hset⟩
        · have hne : m ≠ i := fun e => by
            subst e
            rcases Nat.lt_or_gt_of_ne hjc with h | h
            · exact (chain_need hch h hj hk).1 rfl
            · exact (chain_need hch h hk hj).1 rfl
          rw [hoth m hne, hcx j m hj]
          omega
      have hal : allow ms need i c = true := by
        unfold allow
        refine List.all_eq_true.2 fun j hj => ?_
        have hjl := List.mem_range.1 hj
        rw [List.getElem?_eq_getElem hjl]
        simp only [Bool.and_eq_true, Bool.or_eq_true, Bool.not_eq_true', decide_eq_true_eq]
        have hjm := List.getElem?_eq_getElem hjl
        constructor
        · by_cases hm : ((need[i]?).getD []).contains ms[j] = true
          · exact .inr ((hcx j _ hjm).1 (hneed _ (List.contains_iff_mem.1 hm)))
          · exact .inl (by simpa using hm)
        · by_cases hm : ((need[ms[j]]?).getD []).contains i = true
          · refine .inr ?_
            apply Classical.byContradiction
            intro hcj
            obtain ⟨om, hom⟩ := hmo j _ hjm
            exact hback _ om hom ((hcx j _ hjm).2 (by omega)) (List.contains_iff_mem.1 hm)
          · exact .inl (by simpa using hm)
      refine ⟨o, hoi', ?_⟩
      rcases hcase with ⟨hw, hvt, hsame⟩ | ⟨hw, k, hk, hcase⟩ | ⟨hw, hni, hcase⟩
      · rw [← hwc, hw, runOp_ff, ← hvt]
        by_cases hmi : i ∈ ms
        · obtain ⟨k, hk⟩ := List.getElem?_of_mem hmi
          obtain ⟨rfl, hH⟩ := hmc k hk
          rw [← hsame _ hk]
          exact ⟨hdst, ih _ _ _ _ hH hinv (hsh e (.inl rfl) fun _ _ => rfl) hcnt⟩
        · exact ⟨hdst, ih _ _ _ _ (hq0 hmi) hinv (hsh e (.inl rfl) fun _ _ => rfl) hcnt⟩
      · obtain ⟨rfl, hH⟩ := hmc k hk
        rcases hcase with ⟨hml, p, ha, hpp⟩ | ⟨f, args, ha, hc1⟩
        · obtain ⟨e2, ha2, hsame, hex⟩ := loadM_congr hO.reads hml (fun x hx => hrdS x (List.mem_append_left _ hx)) ha
          rw [← hwc, hw, runOp_tt, ha2, upon_val]
          exact ⟨hpp, hdst, ih _ _ _ _ hH hinv (hsh e2 hex fun x _ => hsame x) hcnt⟩
        · have ha2 := aop_congr_call hO.reads (fun x hx => hrdS x (List.mem_append_left _ hx)) ha
          rw [← hwc, hw, runOp_tt, ha2, upon_call]
          exact ⟨hdst, hc1 _ (ih _ _ _ _ hH hinv (hsh e (.inl rfl) fun _ _ => rfl) hcnt)⟩
      · rcases hcase c hcl hal with ⟨htn, htk0, p, ha, hpp⟩ | ⟨s, p, e1, ht, ha, hpp⟩ | ⟨f, args, ha, hc1⟩ | ⟨hml, p, ha, hpp⟩
        · obtain ⟨e2, ha2, hsame, hex⟩ := aop_congr hO.reads (.inl htk0) (fun x hx => hrdS x (List.mem_append_left _ hx)) ha
          rw [← hwc, hw, runOp_tt, ha2, upon_val]
          exact ⟨hpp, hdst, ih _ _ _ _ (hq0 hni) hinv (hsh e2 hex fun x _ => hsame x) hcnt⟩
        · obtain ⟨hsl, u, ha2⟩ := take_congr hO.reads (takeT_of ht).1 (fun x hx => hrdS x (List.mem_append_left _ hx)) ha
          rw [← hwc, hw, runOp_tt, ha2, upon_val]
          refine ⟨hpp, hdst, ih _ _ _ _ (hq0 hni) hinv (hsh _ (.inr ⟨s, u, hsl, rfl⟩) fun x hx => ?_) hcnt⟩
          have hxs : x ≠ s := fun hxs => hx (by rw [ht, hxs])
          exact get_put_ne hxs _ _
        · have ha2 := aop_congr_call hO.reads (fun x hx => hrdS x (List.mem_append_left _ hx)) ha
          rw [← hwc, hw, runOp_tt, ha2, upon_call]
          exact ⟨hdst, hc1 _ (ih _ _ _ _ (hq0 hni) hinv (hsh e (.inl rfl) fun _ _ => rfl) hcnt)⟩
        · obtain ⟨e2, ha2, hsame, hex⟩ := loadM_congr hO.reads hml (fun x hx => hrdS x (List.mem_append_left _ hx)) ha
          rw [← hwc, hw, runOp_tt, ha2, upon_val]
          exact ⟨hpp, hdst, ih _ _ _ _ (hq0 hni) hinv (hsh e2 hex fun x _ => hsame x) hcnt⟩
  refine main ops.length _ e0 e0 (hs 0) ⟨0, Nat.zero_le _, fun j m hm => ?_, rfl⟩ ⟨by simp, fun j o d v _ _ hsx => ?_, fun x _ => rfl, fun j o _ hsx => ?_, rfl⟩ ⟨fun _ _ => rfl, rfl⟩ (by simp)
  · simp only [Array.getD_eq_getD_getElem?, Array.getElem?_replicate]; split <;> simp
  · simp only [Array.getD_eq_getD_getElem?, Array.getElem?_replicate] at hsx; split at hsx <;> simp at hsx
  · simp only [Array.getD_eq_getD_getElem?, Array.getElem?_replicate] at hsx; split at hsx <;> simp at hsx

/-- The last operation: a store of one slot behind another. -/
theorem any_drawNS (T : List Nat) (hC : CMono C C) (k : Nat) {last : Oper} {t a x : Nat} {ks : List Nat} {ops : List Oper} {Q : PostX} {e0 : Env} (hk : ops[k]? = some last) (hlen : ops.length = k + 1)
    (hop : last.op = .store t (.tmp a) (.tmp x)) (hg : last.guard = none) (hd : last.dst = none) (hax : (T.contains a || T.contains x || ks.contains x || a == x) = false)
    (ho : ordB [] (ops.take k) = true) (hnk : needOK (ops.take k) need = true) (hch : chainOK ms need = true) (hmr : ms.all (fun m => decide (m < ((ops.take k)).length)) = true) (hkb : keptB (ops.take k) ks e0.keys = true) (htb : takeB tk T (ops.take k) ks = true) (hcov : coverB ops k = true) (hback : backB ops = true)
    {vals : List V} (hvl : vals.length = ((ops.take k)).length) (hst : ∀ (i : Nat) (o : Oper) (v : V), ((ops.take k))[i]? = some o → vals[i]? = some v → StepAtN ty C n tk T ((ops.take k)) ms need hs i o (putsL e0 (((ops.take k)).take i) (vals.take i)) v) (hp : (fun g => stK ty t (g.get a).demote (g.get x) (hs ms.length) fun h' => Q .normal (g.keep ks) h') (putsL e0 ((ops.take k)) vals)) : evalAny ty C n tk ops (regQ ks Q) (panQ Q) ops.length (Array.replicate ops.length false) e0 (hs 0) := by
  have hl : (ops.take k).length = k := by rw [List.length_take]; omega
  have hsplit : ops = ops.take k ++ [last] := by
    apply List.ext_getElem?
    intro i
    by_cases hi : i < k
    · rw [List.getElem?_append_left (by omega), List.getElem?_take, if_pos hi]
    · by_cases hi2 : i = k
      · subst hi2
        rw [List.getElem?_append_right (by omega), hk, hl]; simp
      · rw [List.getElem?_eq_none (by omega), List.getElem?_eq_none (by simp; omega)]
  simp only [Bool.or_eq_false_iff, beq_eq_false_iff_ne, ne_eq] at hax
  obtain ⟨⟨⟨hTa, hTx⟩, hkx⟩, hne⟩ := hax
  have hG := any_of_N (C := C) (X := panQ Q) (P := fun g => stK ty t (g.get a).demote (g.get x) (hs ms.length) fun h' => Q .normal (g.keep ks) h') ho hnk hch hmr hkb htb hvl hst hp
  have hnd : (e0.kept ks).Nodup := by
    unfold keptB at hkb
    simp only [Bool.and_eq_true, decide_eq_true_eq] at hkb
    exact hkb.1
  have hlast : ∀ (e : Env) (h2 : H), (h2 = hs ms.length ∧ Beside (tk := tk) T (ops.take k) ks e0 (fun g => stK ty t (g.get a).demote (g.get x) (hs ms.length) fun h' => Q .normal (g.keep ks) h') e) →
      runOp ty C n tk (wanted (ops.take k ++ [last]) last e) last e h2 (fun env h => Q .normal (env.keep ks) h) (panQ Q) := by
    rintro e h0 ⟨rfl, g, hP, k1, k2, k3⟩
    have hw : wanted (ops.take k ++ [last]) last e = some true := by simp only [wanted, hg]
    have hnt : ∀ y, T.contains y = false → ∀ (i : Nat) (o : Oper), (ops.take k)[i]? = some o → takeT tk T o ≠ some y := by
      intro y hy i o hi ht
      have := (takeT_of ht).2
      rw [hy] at this; cases this
    have ha : e.get a = g.get a := k3 a (hnt a hTa)
    have hx : e.get x = g.get x := k3 x (hnt x hTx)
    have hkeep : ∀ v, (e.put x v).keep ks = g.keep ks := by
      intro v
      have hkp : (e.put x v).kept ks = e0.kept ks := by
        rw [kept_put v fun hc => by rw [hkx] at hc; cases hc]; exact k2
      rw [keep_eq ks _ (by rw [hkp]; exact hnd), hkp, keep_eq ks g (by rw [k1]; exact hnd), k1]
      refine List.map_congr_left fun y hy => ?_
      have hyk := (List.mem_filter.1 hy).2
      rw [get_put_ne (fun hyx => by subst hyx; rw [hkx] at hyk; cases hyk), k3 y fun i o hi ht => takeB_kept htb hi ht hyk]
    rw [hw, runOp_tt]
    have hao : aop ty tk last e (hs ms.length) = store ty t (e.get a).demote (e.get x) (e.put x (e.get x).demote) (hs ms.length) := by
      unfold aop
      rw [hop]
      rfl
    rw [hao, ha, hx]
    exact store_upon hd hP fun h' hq => by rw [hkeep]; exact hq
  have := any_app hC ho (last := last) (by rw [hl, ← hsplit]; exact hcov) (by rw [← hsplit]; exact hback) hlast (ops.take k).length (Array.replicate (ops.take k).length false) e0 (hs 0) (by simp) (fun i o hi hl _ _ _ => by simp [Array.getD_eq_getD_getElem?, Array.getElem?_replicate] at hl; split at hl <;> simp at hl) hG
  rw [← hsplit, hl] at this
  have e2 : (Array.replicate k false).push false = Array.replicate ops.length false := by
    rw [hlen]; apply Array.toList_inj.1; simp [List.replicate_succ']
  rw [e2, ← hlen] at this
  exact this

theorem any_drawN (T : List Nat) (hC : CMono C C) {ks : List Nat} {l : List Oper} {Q : PostX} {e0 : Env} (ho : ordB [] l = true) (hnk : needOK l need = true) (hch : chainOK ms need = true) (hmr : ms.all (fun m => decide (m < (l).length)) = true) (hkb : keptB l ks e0.keys = true) (htb : takeB tk T l ks = true)
    {vals : List V} (hvl : vals.length = (l).length) (hst : ∀ (i : Nat) (o : Oper) (v : V), (l)[i]? = some o → vals[i]? = some v → StepAtN ty C n tk T (l) ms need hs i o (putsL e0 ((l).take i) (vals.take i)) v) (hp : (fun e => Q .normal (e.keep ks) (hs ms.length)) (putsL e0 (l) vals)) : evalAny ty C n tk l (regQ ks Q) (panQ Q) l.length (Array.replicate l.length false) e0 (hs 0) := by
  have := any_of_N (C := C) (X := panQ Q) (P := fun e => Q .normal (e.keep ks) (hs ms.length)) ho hnk hch hmr hkb htb hvl hst hp
  have hnd : (e0.kept ks).Nodup := by
    unfold keptB at hkb
    simp only [Bool.and_eq_true, decide_eq_true_eq] at hkb
    exact hkb.1
  refine evalAny_mono hC (fun e h' hk => ?_) (fun v env h hx => hx) _ _ _ _ this
  obtain ⟨rfl, g, hP, k1, k2, k3⟩ := hk
  show Q .normal (e.keep ks) (hs ms.length)
  rw [keep_eq ks e (by rw [k2]; exact hnd), k2]
  rw [keep_eq ks g (by rw [k1]; exact hnd), k1] at hP
  rw [List.map_congr_left (g := fun k => (k, g.get k)) fun k hk => by rw [k3 k fun i o hi ht => takeB_kept htb hi ht (List.mem_filter.1 hk).2]]
  exact hP
end
end Go.Proofs.YtiigffdmjdooeaaGreatDoor.Pv
set_option linter.unusedVariables false
set_option linter.unusedSimpArgs false
set_option maxHeartbeats 1000000
namespace Go.Proofs.YtiigffdmjdooeaaGreatDoor.Pv
open Go
noncomputable section
section
variable (ty : Nat → Ty) (call : FuncId → List V → H → Option (Out × H)) (n : Nat) (keep : List Nat) (mask : Nat) (tk : List Nat)

def dstX : Option Nat → Bool
  | none => true
  | some i => Nat.ble (Nat.succ i) n
/-- A test for nil of a list that has something. -/
def nilX (o : Oper) (env : EnvX) : Option V :=
  match o.op with
  | .binOp op t x y t' =>
    (match op, (ty t).k, evF ty env t x, evF ty env t' y, isC x || isC y with
    | .eql, .slice _, .sl _ (_ :: _), .nils _ _, true => some (.bool false)
    | .neq, .slice _, .sl _ (_ :: _), .nils _ _, true => some (.bool true)
    | _, _, _, _, _ => none)
  | _ => none
/-- Which object an operation changes, or makes. -/
def atX (o : Oper) (env : EnvX) (h : H) : Option Nat :=
  match o.op with
  | .store _ a _ => (match evF ty env 0 a with | .ref id _ => some id | _ => none)
  | .load _ a => if tkB tk o.dst then (match evF ty env 0 a with | .ref id _ => some id | _ => none) else none
  | .insert t m _ _ => (match evF ty env t m with | .map id => some id | _ => none)
  | .mapUpdate t m _ _ => (match evF ty env t m with | .map id => some id | _ => none)
  | .next x _ => (match evF ty env 0 x with | .ref id _ => some id | _ => none)
  | .alloc _ => some h.length
  | .box _ _ => some h.length
  | .makeMap _ _ => some h.length
  | .makeSlice _ _ _ => some h.length
  | .range _ _ => some h.length
  | .call { callee := .builtin .append, args := _, argTypes := _ } => if rwB tk o.dst then some h.length else none
  | _ => none
def forceO {α : Type} (o : Oper) (v : V) (k : V → α) : α :=
  match o.op with
  | .move _ => V.whnf v k
  | .assign _ => V.whnf v k
  | .extract _ _ => V.whnf v k
  | .nilCheck _ => V.whnf v k
  | .call { callee := .value _, args := _, argTypes := _ } => k v
  | _ => V.force v k
def settle {α : Type} (i : Option Nat) (h : H) (k : H → α) : α := match i with | some i => forceN i fun i => forceAt i h k | none => k h
inductive SX where
  | val (v : V) (env : EnvX) (h : H)
  | pan (v : V) (h : H)
def wantedX (ops : List Oper) (o : Oper) (x : EnvX) : Option Bool :=
  match o.guard with
  | none => some true
  | some (g, b) =>
    match (ops[g]?).bind (·.dst) with
    | some t => (match getF x t with | .bool c => some (c == b) | .tup [] => some false | _ => none)
    | none => none
theorem wantedX_eq (ops : List Oper) (o : Oper) (x : EnvX) : wantedX ops o x = wanted ops o x.toE := by
  unfold wantedX wanted
  simp only [getF_eq]
  rfl
def opX (o : Oper) (x : EnvX) (h : H) : Option SX :=
  if dstX n o.dst then
    (match aopX ty tk o x h with
    | .val true v e h' => forceO o v fun v => settle (atX ty tk o x h) h' fun h' => some (.val v e h')
    | .call f args => V.whnfL args fun args => (match call f args h with | some (.ret v, h') => some (.val v x h') | some (.panic v, h') => some (.pan v h') | none => none)
    | .pan v => some (.pan v h)
    | .each _ => (match nilX ty o x with | some v => some (.val v x h) | none => none)
    | _ => none)
  else none
def opsX (ops : List Oper) : List Oper → EnvX → H → Option (Ex × EnvX × H)
  | [], x, h => some (.normal, x, h)
  | o :: os, x, h =>
    match wantedX ops o x with
    | some true => (match opX ty call n tk o x h with
      | some (.val v e h') => (match o.dst with | some d => EnvX.headF e fun t b => opsX ops os (.mk ((d, v) :: t) b) h' | none => EnvX.headF e fun t b => opsX ops os (.mk t b) h')
      | some (.pan v h') => some (.panic v, x, h')
      | none => none)
    | some false => if dstX n o.dst then (match o.dst, x with | some d, .mk t b => opsX ops os (.mk ((d, .tup []) :: t) b) h | none, x => opsX ops os x h) else none
    | none => none
/-- What writes nothing but its slot. -/
def plainX (o : Oper) : Bool :=
  match o.op with
  | .move (.tmp _) => false
  | .assign (.tmp _) => false
  | .move _ | .assign _ | .pick _ _ _ | .build _ _ | .buildSlice _ _ _ | .nilCheck _ | .unOp _ _ _ | .convert _ _ _ | .makeInterface _ _ | .fieldAddr _ _ _ | .field _ _ _ | .indexAddr _ _ _ | .index _ _ _ | .extract _ _ | .lookup _ _ _ _ | .slice _ _ _ _ (some _) => true
  | .binOp _ _ _ _ _ => true
  | .call { callee := .builtin .len, args := _, argTypes := _ } => true
  | .call { callee := .builtin .min, args := _, argTypes := _ } => true
  | .call { callee := .builtin .max, args := _, argTypes := _ } => true
  | _ => false
def bareX : V → Bool
  | .own _ _ _ => false
  | .cap _ _ => false
  | .pri _ _ _ _ => false
  | _ => true
def quietX (o : Oper) (env : Env) (h : H) : Option V :=
  match o.op with
  | .move (.tmp i) => if tkB tk o.dst && neD i o.dst then none else some (env.get i).demote
  | .assign (.tmp i) => if neD i o.dst then (if env.keys.contains i && bareX (env.get i) then some (env.get i).toOwn else none) else some (env.get i).demote
  | .load t a => if tkB tk o.dst then none else (match aopX ty tk o (.of env) h with | .val true v _ _ => some v | _ => none)
  | .slice t x lo hi none => if tkB tk o.dst then none else (match aopX ty tk o (.of env) h with | .val true v _ _ => some v | _ => none)
  | _ => if plainX o then (match aopX ty tk o (.of env) h with | .val true v _ _ => some v | _ => none) else
    (match aopX ty tk o (.of env) h with
    | .call f args => V.forceL args fun args => (match call f args h with | some (.ret v, h') => if heapB h' h then some v else none | _ => none)
    | _ => none)
def pureX (ops : List Oper) : List Oper → Env → H → Option Env
  | [], env, h => some env
  | o :: os, env, h =>
    match wanted ops o env with
    | some true => (match quietX ty call tk o env h with
      | some v => if dstX n o.dst then forceO o v fun v => (match o.dst with | some d => putF d v env fun e => pureX ops os e h | none => pureX ops os env h) else none
      | none => none)
    | some false => if dstX n o.dst then pureX ops os (putD o.dst env (.tup [])) h else none
    | none => none
/-- .. of each order that the edges let in. -/
def anyX (ops : List Oper) : Nat → Array Bool → Env → H → Option (List (Env × H))
  | 0, listed, env, h => if (Region.ready .any ops.toArray listed).isEmpty then some [(env, h)] else none
  | k + 1, listed, env, h =>
    if (Region.ready .any ops.toArray listed).isEmpty then some [(env, h)]
    else (Region.ready .any ops.toArray listed).foldr (fun i r =>
      match r, ops[i]? with
      | some l, some o =>
        (match wanted ops o env with
        | some true => (match opX ty call n tk o (.of env) h with
          | some (.val v e h') => (match anyX ops k (listed.setIfInBounds i true) (putD o.dst e.toE v) h' with | some l' => some (l' ++ l) | none => none)
          | _ => none)
        | some false => if dstX n o.dst then (match anyX ops k (listed.setIfInBounds i true) (putD o.dst env (.tup [])) h with | some l' => some (l' ++ l) | none => none) else none
        | none => none)
      | _, _ => none) (some [])
/-- The slots that appends and cuts take. -/
def isApp (o : Oper) : Bool := match o.op with | .call c => (match c.callee with | .builtin .append => true | _ => false) | _ => false
def takesX (ops : List Oper) : List Nat :=
  ops.filterMap fun o => match o.op with
    | .slice _ _ _ _ _ => takeOf tk o
    | .call _ => takeOf tk o
    | .assign (.tmp s) => if ops.any (fun a => (match a.dst with | some d => Nat.beq d s | none => false) && isApp a) then takeOf tk o else none
    | _ => none
abbrev Memo := List (Nat × FuncId × List V × V × Nat)
/-- In the text's order: the heaps, one behind each change; which operations change; the calls, with the numbers of the heaps ahead and behind. -/
def pass1 (ops : List Oper) : List Oper → Nat → Env → H → List H → List Nat → Memo → Option (List H × List Nat × Memo)
  | [], _, _, _, hs, ms, memo => some (hs, ms, memo)
  | o :: os, i, e, h, hs, ms, memo =>
    match wanted ops o e with
    | some true =>
      (match aopX ty tk o (.of e) h with
      | .call f args => V.whnfL args fun args => (match call f args h with
        | some (.ret v, h') =>
          if heapB h' h then pass1 ops os (i + 1) (putD o.dst e v) h hs ms ((ms.length, f, args, v, ms.length) :: memo)
          else pass1 ops os (i + 1) (putD o.dst e v) h' (hs ++ [h']) (ms ++ [i]) ((ms.length, f, args, v, ms.length + 1) :: memo)
        | _ => none)
      | .val true v e' h' =>
        if isM tk o && !heapB h' h then pass1 ops os (i + 1) (putD o.dst e'.toE v) h' (hs ++ [h']) (ms ++ [i]) memo
        else pass1 ops os (i + 1) (putD o.dst e'.toE v) h hs ms memo
      | _ => none)
    | some false => pass1 ops os (i + 1) (putD o.dst e (.tup [])) h hs ms memo
    | none => none
def lookM (memo : Memo) (hs : List H) (k : Nat) (f : FuncId) (args : List V) (h : H) : Option (Out × H) :=
  match memo.find? (fun q => Nat.beq q.1 k && (Nat.beq q.2.1 f && V.beqL q.2.2.1 args)) with
  | some q => some (.ret q.2.2.2.1, hs.getD q.2.2.2.2 [])
  | none => call f args h
/-- A store that moves nothing. -/
def stillX (o : Oper) (e : Env) : Bool :=
  match o.op with
  | .store _ _ (.tmp i) => e.keys.contains i && bareX (getL e i)
  | _ => true
def quietN (T : List Nat) (memo : Memo) (hs : List H) (o : Oper) (e : Env) (k : Nat) : Option V :=
  if isM tk o then (match aopX ty tk o (.of e) (hs.getD k []) with | .val true v _ h' => if stillX o e && heapB h' (hs.getD k []) then some v else none | _ => none)
  else if (takeT tk T o).isSome then (match aopX ty tk o (.of e) (hs.getD k []) with | .val true v _ _ => some v | _ => none)
  else if tkB tk o.dst then none
  else quietX ty (lookM call memo hs k) tk o e (hs.getD k [])
def idxN (ms : List Nat) (i : Nat) : Option Nat := (List.range ms.length).find? fun k => match ms[k]? with | some m => Nat.beq m i | none => false
def stepN (T : List Nat) (memo : Memo) (hs : List H) (ms : List Nat) (need : List (List Nat)) (i : Nat) (o : Oper) (e : Env) : Option V :=
  match idxN ms i with
  | some k => (match aopX ty tk o (.of e) (hs.getD k []) with
    | .val true v _ h' => if isM tk o && (stillX o e && heapB h' (hs.getD (k + 1) [])) then some v else none
    | .call f args => (match lookM call memo hs k f args (hs.getD k []) with | some (.ret v, h') => if heapB h' (hs.getD (k + 1) []) then some v else none | _ => none)
    | _ => none)
  | none => (match (List.range (ms.length + 1)).filter (allow ms need i) with
    | [] => none
    | k :: r => (match quietN ty call tk T memo hs o e k with
      | some v => if r.all (fun k => match quietN ty call tk T memo hs o e k with | some v2 => V.beq v2 v | none => false) then some v else none
      | none => none))
def pass2 (ops : List Oper) (T : List Nat) (memo : Memo) (hs : List H) (ms : List Nat) (need : List (List Nat)) : List Oper → Nat → Env → Option Env
  | [], _, e => some e
  | o :: os, i, e =>
    match wanted ops o e with
    | some true => (match stepN ty call tk T memo hs ms need i o e with
      | some v => if dstX n o.dst then forceO o v fun v => (match o.dst with | some d => putF d v e fun e => pass2 ops T memo hs ms need os (i + 1) e | none => pass2 ops T memo hs ms need os (i + 1) e) else none
      | none => none)
    | some false => if dstX n o.dst && (idxN ms i).isNone then pass2 ops T memo hs ms need os (i + 1) (putD o.dst e (.tup [])) else none
    | none => none
/-- What must come ahead of what. -/
def needOf (ops : List Oper) : List (List Nat) :=
  ops.foldl (fun acc o => acc ++ [(o.after.toList.foldl (fun l a => if Region.binds .any a then (a.on :: (acc[a.on]?).getD []).foldl (fun l x => if l.contains x then l else x :: l) l else l) [])]) []
def lastSt (ops : List Oper) : Option (Nat × Nat × Nat) :=
  match ops[ops.length - 1]? with
  | some o => (match o.op, o.guard, o.dst with
    | .store t (.tmp a) (.tmp x), none, none => some (t, a, x)
    | _, _, _ => none)
  | none => none
def condN (T ks : List Nat) (env : Env) (l : List Oper) : Bool := ordB [] l && (keptB l ks env.keys && takeB tk T l ks)
def condN2 (ms : List Nat) (need : List (List Nat)) (l : List Oper) : Bool := needOK l need && (chainOK ms need && ms.all (fun m => decide (m < l.length)))
def needN (ms : List Nat) (l : List Oper) : List (List Nat) := if ms.isEmpty then [] else needOf l
def drawMX (ops : List Oper) (env : Env) (h : H) : Option (Ex × Env × H) :=
  match lastSt ops with
  | some (t, a, x) =>
    if !(takesX tk ops).contains a && !(takesX tk ops).contains x && !keep.contains x && !(a == x) && decide (ops.length = (ops.length - 1) + 1) &&
        condN tk (takesX tk ops) keep env (ops.take (ops.length - 1)) && coverB ops (ops.length - 1) && backB ops then
      (match pass1 ty call tk (ops.take (ops.length - 1)) (ops.take (ops.length - 1)) 0 env h [h] [] [] with
      | some (hs, ms, memo) => if condN2 ms (needN ms (ops.take (ops.length - 1))) (ops.take (ops.length - 1)) then
        (match pass2 ty call n tk (ops.take (ops.length - 1)) (takesX tk ops) memo hs ms (needN ms (ops.take (ops.length - 1))) (ops.take (ops.length - 1)) 0 env with
        | some g => (match storeX ty t (getL g a).demote (getL g x) (.of []) (hs.getD ms.length []) with
          | .val true _ _ h' => keepF mask g fun e => (match (getL g a).demote with | .ref id _ => forceN id fun id => forceAt id h' fun h' => some (.normal, e, h') | _ => none)
          | _ => none)
        | none => none) else none
      | none => none)
    else none
  | none =>
    if condN tk (takesX tk ops) keep env ops then
      (match pass1 ty call tk ops ops 0 env h [h] [] [] with
      | some (hs, ms, memo) => if condN2 ms (needN ms ops) ops then
        (match pass2 ty call n tk ops (takesX tk ops) memo hs ms (needN ms ops) ops 0 env with
        | some g => keepF mask g fun e => some (.normal, e, hs.getD ms.length [])
        | none => none) else none
      | none => none)
    else none
/-- A load that does not move, a move: nothing that may change the heap. -/
def isLd (o : Oper) : Bool := match o.op with | .load _ _ => !tkB tk o.dst | .move _ => true | .assign _ => true | .slice _ _ _ _ none => !tkB tk o.dst | _ => false
/-- A region in which an append is told as an object: what is ahead of it, and then each order of the rest. -/
def hasRow (ops : List Oper) : Bool := ops.any fun o => rwB tk o.dst
def splitAtX (ops : List Oper) : Option Nat := (List.range ops.length).find? fun p => Nat.blt 0 p && (Nat.ble ops.length (p + 8) && (splitB ops p && headB ops p))
def preX (ops : List Oper) (env : Env) (h : H) : Option (Env × H) :=
  match drawMX ty call n keep mask tk ops env h with
  | some (.normal, e, h1) => some (e, h1)
  | _ => if 8 < ops.length then none else (match anyX ty call n tk ops ops.length (Array.replicate ops.length false) env h with
    | some ((e, h') :: r) => if r.all (fun q => envB (q.1.keep keep) (e.keep keep) && heapB q.2 h') then keepF mask e fun e => some (e, h') else none
    | _ => none)
def drawSX (ops : List Oper) (env : Env) (h : H) : Option (Ex × Env × H) :=
  match splitAtX ops with
  | some p => (match preX ty call n keep mask tk (ops.take p) env h with
    | some (e, h1) => (match anyX ty call n tk ops (ops.length - p) ((List.replicate p true ++ List.replicate (ops.length - p) false).toArray) e h1 with
      | some ((e2, h2) :: r) => if r.all (fun q => envB (q.1.keep keep) (e2.keep keep) && heapB q.2 h2) then keepF mask e2 fun e2 => some (.normal, e2, h2) else none
      | _ => none)
    | _ => none)
  | none => none
def drawX (ops : List Oper) (env : Env) (h : H) : Option (Ex × Env × H) :=
  if ordB tk ops && keptB ops keep env.keys && ops.all (fun o => plainX o || isLd tk o) then
    (match pureX ty call n tk ops ops env h with
    | some e => keepF mask e fun e => some (.normal, e, h)
    | none => none)
  else if hasRow tk ops then drawSX ty call n keep mask tk ops env h
  else match drawMX ty call n keep mask tk ops env h with
  | some r => some r
  | none =>
    if 8 < ops.length then drawSX ty call n keep mask tk ops env h else
    match anyX ty call n tk ops ops.length (Array.replicate ops.length false) env h with
    | some ((e, h') :: r) => if r.all (fun q => envB (q.1.keep keep) (e.keep keep) && heapB q.2 h') then some (.normal, e.keep keep, h') else none
    | _ => none
def codeX : Nat → Code → Env → H → Option (Ex × Env × H)
  | 0, _, _, _ => none
  | k + 1, c, env, h =>
    match c with
    | .skip => some (.normal, env, h)
    | .region _ ops draw =>
      if draw then drawX ty call n keep mask tk ops.toList env h
      else (match inPl ops.toList with
        | some _ => none
        | none => (match opsX ty call n tk ops.toList ops.toList (.mk [] env) h with
          | some (.normal, .mk t b, h') => finF mask t b fun e => some (.normal, e, h')
          | some (e, x, h') => some (e, x.toE, h')
          | none => none))
    | .seq a b => (match codeX k a env h with | some (.normal, e, h') => codeX k b e h' | r => r)
    | .cond c a b => (match evF ty (.mk [] env) 0 c with | .bool t => codeX k (if t = true then a else b) env h | _ => none)
    | .block id b => (match codeX k b env h with | some (.exit i, e, h') => if i = id then some (.normal, e, h') else some (.exit i, e, h') | r => r)
    | .loop b => (match codeX k b env h with | some (.normal, e, h') => codeX k (.loop b) e h' | r => r)
    | .exit id => some (.exit id, env, h)
    | .ret => some (.ret, env, h)
    | _ => none
end
section
variable {ty : Nat → Ty} {call : FuncId → List V → H → Option (Out × H)} {C : CallP} {n : Nat} {keep tk : List Nat}
theorem dstX_ok {d : Option Nat} (h : dstX n d = true) : dstOk n d := by
  cases d with
  | none => trivial
  | some i =>
    have : i < n := Nat.le_of_ble_eq_true h
    exact this
theorem forceO_eq {α : Type} (o : Oper) (v : V) (k : V → α) : forceO o v k = k v := by
  unfold forceO
  split <;> first | exact V.whnf_eq .. | rfl | exact V.force_eq ..
theorem settle_eq {α : Type} (i : Option Nat) (h : H) (k : H → α) : settle i h k = k h := by cases i <;> simp [settle, forceN_eq, forceAt_eq]
theorem aop_of {o : Oper} {env : EnvX} {h : H} {r : ResX} (he : aopX ty tk o env h = r) : aop ty tk o env.toE h = r.up := by rw [← aopX_up, he]
theorem nilX_each {o : Oper} {env : EnvX} {h : H} {v : V} (hn : nilX ty o env = some v) {f : Value → Res} (ha : aop ty tk o env.toE h = .each f) : ∀ u, f u = .val True v env.toE h := by
  unfold nilX at hn
  split at hn
  case h_2 => cases hn
  rename_i op t x y t' ho
  simp only [evF_eq] at hn
  unfold aop at ha
  rw [ho] at ha
  simp only [] at ha
  split at hn
  · rename_i h1 h2 h3 h4
    simp only [Option.some.injEq] at hn
    subst hn
    unfold sliceNil at ha
    rw [h1, h2, h3] at ha
    simp only [h4, if_true, Option.getD_some, Res.each.injEq] at ha
    subst ha
    intro u; rfl
  · rename_i h1 h2 h3 h4
    simp only [Option.some.injEq] at hn
    subst hn
    unfold sliceNil at ha
    rw [h1, h2, h3] at ha
    simp only [h4, if_true, Option.getD_some, Res.each.injEq] at ha
    subst ha
    intro u; rfl
  · cases hn
def CallOK (C : CallP) (call : FuncId → List V → H → Option (Out × H)) : Prop := ∀ f args h r h', call f args h = some (r, h') → ∀ Q : Out → H → Prop, Q r h' → C f args h Q
theorem opX_sound (hc : CallOK C call) {o : Oper} {env : EnvX} {h : H} {s : SX} (hs : opX ty call n tk o env h = some s) {Kc : Env → H → Prop} {X : V → Env → H → Prop}
    (hk : match s with | .val v e h' => Kc (putD o.dst e.toE v) h' | .pan v h' => X v env.toE h') : (aop ty tk o env.toE h).upon C n o env.toE h Kc X := by
  unfold opX at hs
  simp only [forceO_eq, V.whnfL_eq, settle_eq] at hs
  split at hs
  case isFalse => cases hs
  rename_i hd
  have hd := dstX_ok hd
  split at hs
  · rename_i v e h' ha
    simp only [Option.some.injEq] at hs
    subst hs
    rw [aop_of ha]
    exact ⟨rfl, hd, hk⟩
  · rename_i f args ha
    rw [aop_of ha]
    split at hs
    · rename_i v h' hcl
      simp only [Option.some.injEq] at hs
      subst hs
      exact ⟨hd, hc _ _ _ _ _ hcl _ hk⟩
    · rename_i v h' hcl
      simp only [Option.some.injEq] at hs
      subst hs
      exact ⟨hd, hc _ _ _ _ _ hcl _ hk⟩
    · cases hs
  · rename_i v ha
    simp only [Option.some.injEq] at hs
    subst hs
    rw [aop_of ha]
    exact hk
  · rename_i f ha
    split at hs
    · rename_i v hn
      simp only [Option.some.injEq] at hs
      subst hs
      have ha2 := aop_of ha
      have hf := nilX_each hn ha2
      rw [ha2]
      intro u
      have h9 : ResX.up (f u) = .val True v env.toE h := hf u
      show (ResX.up (f u)).upon C n o env.toE h Kc X
      rw [h9]
      exact ⟨trivial, hd, hk⟩
    · cases hs
  · cases hs
theorem opsX_sound (hc : CallOK C call) {ops : List Oper} {Kc : Env → H → Prop} {X : V → Env → H → Prop} : ∀ (l : List Oper) (env : EnvX) (h : H) (e : Ex) (env' : EnvX) (h' : H), opsX ty call n tk ops l env h = some (e, env', h') →
    (e = .normal → Kc env'.toE h') → (∀ v, e = .panic v → X v env'.toE h') → evalOps ty C n tk ops l Kc X env.toE h
  | [], env, h, e, env', h', hs, h1, h2 => by
    simp only [opsX, Option.some.injEq, Prod.mk.injEq] at hs
    obtain ⟨rfl, rfl, rfl⟩ := hs
    exact h1 rfl
  | o :: os, env, h, e, env', h', hs, h1, h2 => by
    unfold opsX at hs
    show runOp ty C n tk (wanted ops o env.toE) o env.toE h (evalOps ty C n tk ops os Kc X) X
    rw [wantedX_eq] at hs
    split at hs
    · rename_i hw
      rw [hw]
      split at hs
      · rename_i v e1 h1' ho
        obtain ⟨t1, b1⟩ := e1
        have hs2 : ∃ x : EnvX, x.toE = putD o.dst (EnvX.toE (.mk t1 b1)) v ∧ opsX ty call n tk ops os x h1' = some (e, env', h') := by
          cases hd : o.dst with
          | none =>
            rw [hd] at hs
            simp only [EnvX.headF_eq] at hs
            exact ⟨.mk t1 b1, rfl, hs⟩
          | some d =>
            rw [hd] at hs
            simp only [EnvX.headF_eq] at hs
            exact ⟨.mk ((d, v) :: t1) b1, rfl, hs⟩
        obtain ⟨x, hx, hs2⟩ := hs2
        have := opsX_sound hc os _ _ _ _ _ hs2 h1 h2
        rw [hx] at this
        exact opX_sound hc ho this
      · rename_i v h1' ho
        simp only [Option.some.injEq, Prod.mk.injEq] at hs
        obtain ⟨rfl, rfl, rfl⟩ := hs
        exact opX_sound hc ho (h2 v rfl)
      · cases hs
    · rename_i hw
      rw [hw]
      split at hs
      · rename_i hd
        refine ⟨dstX_ok hd, ?_⟩
        obtain ⟨t1, b1⟩ := env
        cases hdd : o.dst with
        | none =>
          rw [hdd] at hs
          exact opsX_sound hc os _ _ _ _ _ hs h1 h2
        | some d =>
          rw [hdd] at hs
          exact opsX_sound hc os (.mk ((d, .tup []) :: t1) b1) _ _ _ _ hs h1 h2
      · cases hs
    · cases hs
def EnvX.base : EnvX → Env
  | .mk _ b => b
theorem EnvX.put_base (x : EnvX) (i : Nat) (v : V) : (x.put i v).base = x.base := by cases x; rfl
theorem R1X.res_base {r : R1X} {x : EnvX} {h : H} {p : Bool} {v : V} {e : EnvX} {h' : H} (ha : r.res x h = .val p v e h') : e.base = x.base := by
  cases r with
  | ok q u => simp only [R1X.res, ResX.val.injEq] at ha; rw [← ha.2.2.1]
  | bad => cases ha
theorem loadX_base {t : Nat} {a b : Bool} {u : V} {x : EnvX} {h : H} {p : Bool} {v : V} {e : EnvX} {h' : H} (ha : loadX ty t a b u x h = .val p v e h') : e.base = x.base := by
  unfold loadX loadNX at ha
  repeat' split at ha
  all_goals first
    | (cases ha; done)
    | (simp only [ResX.val.injEq] at ha; rw [← ha.2.2.1])
theorem storeX_base {t : Nat} {a b : V} {x : EnvX} {h : H} {p : Bool} {v : V} {e : EnvX} {h' : H} (ha : storeX ty t a b x h = .val p v e h') : e.base = x.base := by
  unfold storeX at ha
  repeat' split at ha
  all_goals first
    | (cases ha; done)
    | (simp only [ResX.val.injEq] at ha; rw [← ha.2.2.1])
theorem updateX_base {t : Nat} {a b c : V} {x : EnvX} {h : H} {p : Bool} {v : V} {e : EnvX} {h' : H} (ha : updateX ty t a b c x h = .val p v e h') : e.base = x.base := by
  unfold updateX at ha
  repeat' split at ha
  all_goals first
    | (cases ha; done)
    | (simp only [ResX.val.injEq] at ha; rw [← ha.2.2.1])
theorem sliceOpX_base {m : Bool} {t : Nat} {a : Operand} {lo hi : Option Operand} {x : EnvX} {h : H} {p : Bool} {v : V} {e : EnvX} {h' : H} (ha : sliceOpX ty m t a lo hi x h = .val p v e h') : e.base = x.base := by
  unfold sliceOpX cutX at ha
  repeat' split at ha
  all_goals first
    | (cases ha; done)
    | exact R1X.res_base ha
    | (simp only [ResX.val.injEq] at ha; rw [← ha.2.2.1, EnvX.put_base])
theorem iterX_base {t : Nat} {u : V} {x : EnvX} {h : H} {p : Bool} {v : V} {e : EnvX} {h' : H} : (rangeOpX ty t u x h = .val p v e h' → e.base = x.base) ∧ (nextOpX u x h = .val p v e h' → e.base = x.base) ∧ (nextMX u x h = .val p v e h' → e.base = x.base) ∧ (entryOpX u x h = .val p v e h' → e.base = x.base) := by
  refine ⟨fun ha => ?_, fun ha => ?_, fun ha => ?_, fun ha => ?_⟩
  · unfold rangeOpX at ha
    repeat' split at ha
    all_goals first
      | (cases ha; done)
      | (simp only [ResX.val.injEq] at ha; rw [← ha.2.2.1])
  · unfold nextOpX at ha
    repeat' split at ha
    all_goals first
      | (cases ha; done)
      | (simp only [ResX.val.injEq] at ha; rw [← ha.2.2.1])
  · unfold nextMX at ha
    repeat' split at ha
    all_goals first
      | (cases ha; done)
      | (simp only [ResX.val.injEq] at ha; rw [← ha.2.2.1])
  · unfold entryOpX at ha
    repeat' split at ha
    all_goals first
      | (cases ha; done)
      | (simp only [ResX.val.injEq] at ha; rw [← ha.2.2.1])
theorem builtinX_base {b : Builtin} {ts : List Nat} {xs : List Operand} {x : EnvX} {h : H} {p : Bool} {v : V} {e : EnvX} {h' : H} (ha : builtinX ty b ts xs x h = .val p v e h') : e.base = x.base := by
  unfold builtinX at ha
  repeat' split at ha
  all_goals first
    | (cases ha; done)
    | exact R1X.res_base ha
    | (have := R1X.res_base ha; rw [this, EnvX.put_base])
theorem rowAppX_base {b : Builtin} {ts : List Nat} {xs : List Operand} {x : EnvX} {h : H} {p : Bool} {v : V} {e : EnvX} {h' : H} (ha : rowAppX ty b ts xs x h = .val p v e h') : e.base = x.base := by
  unfold rowAppX at ha
  repeat' split at ha
  all_goals first
    | (cases ha; done)
    | (simp only [ResX.val.injEq] at ha; rw [← ha.2.2.1])
theorem aopX_base {o : Oper} {x : EnvX} {h : H} {p : Bool} {v : V} {e : EnvX} {h' : H} (ha : aopX ty tk o x h = .val p v e h') : e.base = x.base := by
  unfold aopX at ha
  split at ha
  case h_14 =>
    unfold sliceNilX at ha
    repeat' split at ha
    all_goals first
      | exact R1X.res_base ha
      | (simp only [Option.getD_some, reduceCtorEq] at ha)
  all_goals (repeat' split at ha)
  all_goals first
    | (cases ha; done)
    | exact R1X.res_base ha
    | exact loadX_base ha
    | exact storeX_base ha
    | (have := storeX_base ha; rw [this, EnvX.put_base])
    | exact updateX_base ha
    | exact sliceOpX_base ha
    | exact iterX_base.1 ha
    | exact (iterX_base (ty := ty) (t := 0)).2.1 ha
    | exact (iterX_base (ty := ty) (t := 0)).2.2.1 ha
    | exact (iterX_base (ty := ty) (t := 0)).2.2.2 ha
    | exact builtinX_base ha
    | exact rowAppX_base ha
    | (simp only [ResX.val.injEq] at ha; rw [← ha.2.2.1]; done)
    | (simp only [ResX.val.injEq] at ha; rw [← ha.2.2.1, EnvX.put_base])
theorem opX_base {o : Oper} {x : EnvX} {h : H} {v : V} {e : EnvX} {h' : H} (hs : opX ty call n tk o x h = some (.val v e h')) : e.base = x.base := by
  unfold opX at hs
  simp only [forceO_eq, V.whnfL_eq, settle_eq] at hs
  repeat' split at hs
  all_goals first
    | (cases hs; done)
    | (rename_i ha; simp only [Option.some.injEq, SX.val.injEq] at hs; obtain ⟨rfl, rfl, rfl⟩ := hs; exact aopX_base ha)
    | (simp only [Option.some.injEq, SX.val.injEq] at hs; rw [← hs.2.1])
theorem opsX_base {ops : List Oper} : ∀ (l : List Oper) (env : EnvX) (h : H) (e : Ex) (env' : EnvX) (h' : H), opsX ty call n tk ops l env h = some (e, env', h') → env'.base = env.base
  | [], env, h, e, env', h', hs => by
    simp only [opsX, Option.some.injEq, Prod.mk.injEq] at hs
    rw [hs.2.1]
  | o :: os, env, h, e, env', h', hs => by
    unfold opsX at hs
    split at hs
    · split at hs
      · rename_i v e1 h1' ho
        have h0 := opX_base ho
        obtain ⟨t1, b1⟩ := e1
        cases hd : o.dst with
        | none => rw [hd] at hs; simp only [EnvX.headF_eq] at hs; exact (opsX_base os _ _ _ _ _ hs).trans h0
        | some d => rw [hd] at hs; simp only [EnvX.headF_eq] at hs; exact (opsX_base os _ _ _ _ _ hs).trans h0
      · simp only [Option.some.injEq, Prod.mk.injEq] at hs
        rw [hs.2.1]
      · cases hs
    · split at hs
      · obtain ⟨t1, b1⟩ := env
        cases hd : o.dst with
        | none => rw [hd] at hs; exact opsX_base os _ _ _ _ _ hs
        | some d => rw [hd] at hs; exact opsX_base os (.mk ((d, .tup []) :: t1) b1) _ _ _ _ hs
      · cases hs
    · cases hs
theorem opsX_ends {ops : List Oper} : ∀ (l : List Oper) (env : EnvX) (h : H) (e : Ex) (env' : EnvX) (h' : H), opsX ty call n tk ops l env h = some (e, env', h') → e = .normal ∨ ∃ v, e = .panic v
  | [], env, h, e, env', h', hs => by
    simp only [opsX, Option.some.injEq, Prod.mk.injEq] at hs
    exact .inl hs.1.symm
  | o :: os, env, h, e, env', h', hs => by
    unfold opsX at hs
    split at hs
    · split at hs
      · rename_i v e1 h1' ho
        obtain ⟨t1, b1⟩ := e1
        cases hd : o.dst with
        | none => rw [hd] at hs; simp only [EnvX.headF_eq] at hs; exact opsX_ends os _ _ _ _ _ hs
        | some d => rw [hd] at hs; simp only [EnvX.headF_eq] at hs; exact opsX_ends os _ _ _ _ _ hs
      · simp only [Option.some.injEq, Prod.mk.injEq] at hs
        exact .inr ⟨_, hs.1.symm⟩
      · cases hs
    · split at hs
      · obtain ⟨t1, b1⟩ := env
        cases hd : o.dst with
        | none => rw [hd] at hs; exact opsX_ends os _ _ _ _ _ hs
        | some d => rw [hd] at hs; exact opsX_ends os (.mk ((d, .tup []) :: t1) b1) _ _ _ _ hs
      · cases hs
    · cases hs
theorem plainX_same {o : Oper} (hp : plainX o = true) {env : Env} {h : H} {p : Prop} {v : V} {e' : Env} {h' : H} (ha : aop ty tk o env h = .val p v e' h') : e' = env ∧ h' = h := by
  have hres : ∀ {r : R1}, r.res env h = .val p v e' h' → e' = env ∧ h' = h := fun {r} hr => by
    cases r with
    | ok q u => simp only [R1.res, Res.val.injEq] at hr; exact ⟨hr.2.2.1.symm, hr.2.2.2.symm⟩
    | bad => cases hr
  unfold plainX at hp
  unfold aop at ha
  generalize o.op = q at hp ha
  cases q <;> first | (cases hp; done) | skip
  case move x => cases x <;> first | (cases hp; done) | (simp only [Res.val.injEq] at ha; exact ⟨ha.2.2.1.symm, ha.2.2.2.symm⟩)
  case assign x => cases x <;> first | (cases hp; done) | (simp only [Res.val.injEq] at ha; exact ⟨ha.2.2.1.symm, ha.2.2.2.symm⟩)
  case slice t x lo hi m =>
    cases m with
    | none => cases hp
    | some m => exact hres ha
  case binOp op t x y t' =>
    obtain ⟨_, ha⟩ := sliceNil_res ty ha (by simp)
    exact hres ha
  case call c =>
    obtain ⟨cal, args, ts⟩ := c
    cases cal <;> first | (cases hp; done) | skip
    rename_i b
    cases b <;> first | (cases hp; done) | skip
    all_goals
      replace ha : (if rwB tk o.dst = true then rowApp ty _ ts.toList args.toList env h else builtin ty _ ts.toList args.toList env h) = _ := ha
      split at ha
      · simp [rowApp] at ha
      unfold builtin at ha
      repeat' split at ha
    all_goals first
      | exact hres ha
      | (cases ha; done)
      | (simp_all; done)
  all_goals first
    | exact hres ha
    | (simp only [] at ha; repeat' split at ha)
  all_goals first
    | (cases ha; done)
    | (simp only [Res.val.injEq] at ha; exact ⟨ha.2.2.1.symm, ha.2.2.2.symm⟩)
theorem aopX_val {o : Oper} {env : Env} {h : H} {v : V} {e : EnvX} {h' : H} (hx : aopX ty tk o (.of env) h = .val true v e h') : aop ty tk o env h = .val (true = true) v e.toE h' := aop_of hx
theorem load_same {t : Nat} {ln : Bool} {a : V} {env : Env} {h : H} {p : Prop} {v : V} {e' : Env} {h' : H} (ha : load ty t false ln a env h = .val p v e' h') : e' = env ∧ h' = h := by
  unfold load at ha
  split at ha
  · simp only [Res.val.injEq] at ha; exact ⟨ha.2.2.1.symm, ha.2.2.2.symm⟩
  · split at ha
    · split at ha
      · simp only [Res.val.injEq] at ha; exact ⟨ha.2.2.1.symm, ha.2.2.2.symm⟩
      · split at ha
        · rename_i hf; cases hf
        · split at ha
          · simp only [Res.val.injEq] at ha; exact ⟨ha.2.2.1.symm, ha.2.2.2.symm⟩
          · unfold loadN at ha
            split at ha
            · cases ha
            · simp only [Res.val.injEq] at ha; exact ⟨ha.2.2.1.symm, ha.2.2.2.symm⟩
    · cases ha
  · cases ha
theorem bareX_demote {v : V} (h : bareX v = true) : v.demote = v := by cases v <;> first | rfl | (cases h)
theorem put_get {i : Nat} : ∀ {env : Env}, i ∈ env.keys → env.put i (env.get i) = env
  | [], h => by simp [Env.keys] at h
  | (j, u) :: r, h => by
    by_cases e : i = j
    · subst e; simp [Env.put, Env.get]
    · have h2 : i ∈ Env.keys r := by
        simp only [Env.keys, List.map_cons, List.mem_cons] at h ⊢
        exact h.resolve_left e
      simp only [Env.put, Env.get, if_neg e]
      rw [put_get h2]
/-- What a quiet operation yields. -/
theorem quietX_sound {o : Oper} {env : Env} {h : H} {v : V} (hc : ∀ f args r h', call f args h = some (r, h') → ∀ Q : Out → H → Prop, Q r h' → C f args h Q) (hs : quietX ty call tk o env h = some v) :
    (∃ p, aop ty tk o env h = .val p v env h ∧ p) ∨ ∃ f args, aop ty tk o env h = .call f args ∧ ∀ Q : Out → H → Prop, Q (.ret v) h → C f args h Q := by
  unfold quietX at hs
  simp only [V.forceL_eq] at hs
  split at hs
  · rename_i i ho
    split at hs
    · cases hs
    · rename_i hb
      simp only [Option.some.injEq] at hs
      subst hs
      refine .inl ⟨True, ?_, trivial⟩
      unfold aop
      rw [ho]
      simp only []
      rw [if_neg hb]
  · rename_i i ho
    split at hs
    · rename_i hb
      split at hs
      · rename_i hk
        simp only [Option.some.injEq] at hs
        subst hs
        simp only [Bool.and_eq_true] at hk
        refine .inl ⟨True, ?_, trivial⟩
        unfold aop
        rw [ho]
        simp only []
        rw [if_pos hb, bareX_demote hk.2, put_get (by simpa using hk.1)]
      · cases hs
    · rename_i hb
      simp only [Option.some.injEq] at hs
      subst hs
      refine .inl ⟨True, ?_, trivial⟩
      unfold aop
      rw [ho]
      simp only []
      rw [if_neg hb]
  · rename_i t a ho
    split at hs
    · cases hs
    · rename_i hb
      split at hs
      · rename_i v' e' h' hx
        simp only [Option.some.injEq] at hs
        subst hs
        have ha := aopX_val hx
        have ha2 := ha
        unfold aop at ha2
        rw [ho] at ha2
        simp only [] at ha2
        rw [show tkB tk o.dst = false from by simpa using hb] at ha2
        obtain ⟨rfl, rfl⟩ := load_same ha2
        exact .inl ⟨_, ha, rfl⟩
      · cases hs
  · rename_i t x lo hi ho
    split at hs
    · cases hs
    · rename_i hb
      split at hs
      · rename_i v' e' h' hx
        simp only [Option.some.injEq] at hs
        subst hs
        have ha := aopX_val hx
        have ha2 := ha
        unfold aop at ha2
        rw [ho] at ha2
        simp only [] at ha2
        rw [show tkB tk o.dst = false from by simpa using hb, sliceOp_ff] at ha2
        have : e'.toE = env ∧ h' = h := by
          generalize slice ty t _ _ _ = r at ha2
          cases r with
          | ok q u => simp only [R1.res, Res.val.injEq] at ha2; exact ⟨ha2.2.2.1.symm, ha2.2.2.2.symm⟩
          | bad => cases ha2
        obtain ⟨rfl, rfl⟩ := this
        exact .inl ⟨_, ha, rfl⟩
      · cases hs
  · split at hs
    · rename_i hp
      split at hs
      · rename_i v' e' h' hx
        simp only [Option.some.injEq] at hs
        subst hs
        have ha := aopX_val hx
        obtain ⟨rfl, rfl⟩ := plainX_same hp ha
        exact .inl ⟨_, ha, rfl⟩
      · cases hs
    · split at hs
      · rename_i f args hx
        split at hs
        · rename_i v' h' hcl
          split at hs
          · rename_i hb
            simp only [Option.some.injEq] at hs
            subst hs
            have := heapB_eq _ _ hb
            subst this
            exact .inr ⟨f, args, aop_of hx, hc _ _ _ _ hcl⟩
          · cases hs
        · cases hs
      · cases hs
theorem pureX_sound (hc : CallOK C call) {ops : List Oper} {K : Env → Prop} : ∀ (l : List Oper) (env : Env) (h : H) (e : Env), pureX ty call n tk ops l env h = some e → K e → evalPure ty C n tk ops h l K env
  | [], env, h, e, hs, hk => by
    simp only [pureX, Option.some.injEq] at hs
    subst hs
    exact hk
  | o :: os, env, h, e, hs, hk => by
    unfold pureX at hs
    simp only [forceO_eq] at hs
    rw [evalPure_cons]
    unfold pureK
    split at hs
    · rename_i hw
      rw [hw]
      split at hs
      · rename_i v hq
        split at hs
        · rename_i hd
          have hs2 : pureX ty call n tk ops os (putD o.dst env v) h = some e := by
            revert hs
            unfold putD
            cases o.dst <;> simp only [putF_eq] <;> exact fun h => h
          have ih := pureX_sound hc os _ h e hs2 hk
          rcases quietX_sound (fun f a r h' => hc f a _ r h') hq with ⟨p, ha, hp⟩ | ⟨f, args, ha, hcl⟩
          · simp only [ha]
            exact ⟨hp, trivial, trivial, dstX_ok hd, ih⟩
          · simp only [ha]
            exact ⟨v, hcl, dstX_ok hd, ih⟩
        · cases hs
      · cases hs
    · rename_i hw
      rw [hw]
      split at hs
      · rename_i hd
        exact ⟨dstX_ok hd, pureX_sound hc os _ h e hs hk⟩
      · cases hs
    · cases hs
theorem foldr_each {α β : Type} {F : β → Option α → Option α} {a0 : α} {P : α → Prop} {R : β → Prop} (hF : ∀ i r l, F i r = some l → P l → ∃ l0, r = some l0 ∧ P l0 ∧ R i) : ∀ (rd : List β) (l : α), List.foldr F (some a0) rd = some l → P l → ∀ i ∈ rd, R i
  | [], l, _, _, i, hi => by cases hi
  | j :: rd, l, hs, hp, i, hi => by
    rw [List.foldr_cons] at hs
    obtain ⟨l0, h1, h2, h3⟩ := hF _ _ _ hs hp
    rcases List.mem_cons.1 hi with rfl | hi
    · exact h3
    · exact foldr_each hF rd l0 h1 h2 i hi
theorem anyX_sound (hc : CallOK C call) {ops : List Oper} {Kc : Env → H → Prop} {X : V → Env → H → Prop} : ∀ (k : Nat) (listed : Array Bool) (env : Env) (h : H) (l : List (Env × H)), anyX ty call n tk ops k listed env h = some l →
    (∀ q ∈ l, Kc q.1 q.2) → evalAny ty C n tk ops Kc X k listed env h
  | 0, listed, env, h, l, hs, hk => by
    unfold anyX at hs
    split at hs
    · rename_i he
      simp only [Option.some.injEq] at hs
      subst hs
      exact ⟨List.isEmpty_iff.1 he, hk (env, h) (by simp)⟩
    · cases hs
  | k + 1, listed, env, h, l, hs, hk => by
    unfold anyX at hs
    split at hs
    · rename_i he
      simp only [Option.some.injEq] at hs
      subst hs
      refine ⟨fun _ => hk (env, h) (by simp), fun i hi => ?_⟩
      rw [List.isEmpty_iff.1 he] at hi
      cases hi
    · rename_i he
      refine ⟨fun h0 => absurd (List.isEmpty_iff.2 h0) he, ?_⟩
      refine foldr_each (P := fun l => ∀ q ∈ l, Kc q.1 q.2) (fun i r l hF hk => ?_) _ l hs hk
      split at hF
      · rename_i l0 o ho
        have step : ∀ (f : Option (List (Env × H))), (match f with | some l' => some (l' ++ l0) | none => none) = some l → ∃ l', f = some l' ∧ (∀ q ∈ l', Kc q.1 q.2) ∧ ∀ q ∈ l0, Kc q.1 q.2 := fun f hf => by
          cases f with
          | none => cases hf
          | some l' =>
            simp only [Option.some.injEq] at hf
            subst hf
            exact ⟨l', rfl, fun q hq => hk q (List.mem_append_left _ hq), fun q hq => hk q (List.mem_append_right _ hq)⟩
        split at hF
        · rename_i hw
          split at hF
          · rename_i v e h1 hop
            obtain ⟨l', h2, h3, h4⟩ := step _ hF
            refine ⟨l0, rfl, h4, o, ho, ?_⟩
            rw [hw]
            exact opX_sound hc hop (anyX_sound hc k _ _ _ _ h2 h3)
          · cases hF
        · rename_i hw
          split at hF
          · rename_i hd
            obtain ⟨l', h2, h3, h4⟩ := step _ hF
            refine ⟨l0, rfl, h4, o, ho, ?_⟩
            rw [hw]
            exact ⟨dstX_ok hd, anyX_sound hc k _ _ _ _ h2 h3⟩
          · cases hF
        · cases hF
      · cases hF
theorem call_heap {o : Oper} {env : Env} {h : H} {f : FuncId} {args : List V} (ha : aop ty tk o env h = .call f args) (h1 : H) : aop ty tk o env h1 = .call f args := by
  obtain ⟨dst, op, type, pos, after, guard⟩ := o
  have hop : ∃ fo as ts, op = .call { callee := .value fo, args := as, argTypes := ts } := by
    unfold aop at ha
    split at ha
    case h_29 fo as ts ho => exact ⟨fo, as, ts, ho⟩
    case h_14 => exact (R1.res_call (sliceNil_res ty ha (by simp)).2).elim
    all_goals (exfalso; repeat' split at ha)
    all_goals first
      | (cases ha; done)
      | exact R1.res_call ha
      | exact load_call ha
      | exact store_call ha
      | exact builtin_call ha
      | exact rowApp_call _ ha
      | exact rangeOp_call _ ha
      | exact nextOp_call ha
      | exact nextM_call ha
      | exact entryOp_call ha
      | exact update_call _ ha
      | exact sliceOp_call _ ha
  obtain ⟨fo, as, ts, rfl⟩ := hop
  exact ha
theorem val_call {o : Oper} {env : Env} {h h1 : H} {p : Prop} {v : V} {e : Env} {h' : H} {f : FuncId} {args : List V} (ha : aop ty tk o env h = .val p v e h') : ¬ aop ty tk o env h1 = .call f args := fun hc => by
  have := call_heap hc h
  rw [ha] at this; cases this
theorem call_same {o : Oper} {env : Env} {h h1 : H} {f f2 : FuncId} {args args2 : List V} (ha : aop ty tk o env h = .call f args) (hb : aop ty tk o env h1 = .call f2 args2) : f2 = f ∧ args2 = args := by
  have := call_heap ha h1
  rw [hb] at this
  injection this with e1 e2
  exact ⟨e1, e2⟩
theorem take_heap {o : Oper} {q : Nat} (ht : takeOf tk o = some q) {env : Env} {h : H} {p : Prop} {v : V} {e' : Env} {h' : H} (ha : aop ty tk o env h = .val p v e' h') : h' = h := by
  unfold takeOf at ht
  unfold aop at ha
  generalize o.op = w at ht ha
  cases w <;> try (cases ht; done)
  case assign x =>
    cases x <;> try (cases ht; done)
    simp only [] at ha
    split at ha <;> (simp only [Res.val.injEq] at ha; exact ha.2.2.2.symm)
  case slice t x lo hi m =>
    cases m with
    | some m => cases x <;> cases lo <;> cases hi <;> cases ht
    | none =>
      rcases sliceOp_val ty _ ha with ⟨p1, v1, e1, hr⟩ | hr
      · simp only [Res.val.injEq] at hr; exact hr.2.2.2
      · cases hr
  case call c =>
    obtain ⟨cal, args, ts⟩ := c
    cases cal with
    | value f => cases ht
    | builtin b =>
      cases b <;> try (simp at ht; done)
      replace ha : (if rwB tk o.dst = true then rowApp ty .append ts.toList args.toList env h else builtin ty .append ts.toList args.toList env h) = _ := ha
      split at ha
      · rename_i hrw
        exfalso
        simp only [hrw, if_true] at ht
        split at ht <;> cases ht
      unfold builtin at ha
      split at ha <;> try (cases ha; done)
      all_goals first
        | (split at ha
           · generalize append ty _ _ _ = r at ha
             cases r with
             | ok q u => simp only [R1.res, Res.val.injEq] at ha; exact ha.2.2.2.symm
             | bad => cases ha
           · cases ha)
        | (rename_i hb _ _; cases hb)
        | (rename_i hb; cases hb)
    | _ => cases ht
theorem isM_load {o : Oper} (hm : isM tk o = true) {env : Env} {h : H} {p : Prop} {v : V} {e' : Env} {h' : H} (hst : stillX o env = true) (ha : aop ty tk o env h = .val p v e' h') : e' = env := by
  unfold isM at hm
  unfold stillX at hst
  unfold aop at ha
  generalize o.op = w at hm ha hst
  cases w <;> try (cases hm; done)
  case store t a x =>
    cases x with
    | tmp i =>
      simp only [Bool.and_eq_true, getL_eq] at hst
      simp only [] at ha
      unfold store at ha
      repeat' split at ha
      all_goals first
        | (cases ha; done)
        | (simp only [Res.val.injEq] at ha
           rw [← ha.2.2.1, bareX_demote hst.2, put_get (by simpa using hst.1)])
    | _ =>
      simp only [] at ha
      unfold store at ha
      repeat' split at ha
      all_goals first
        | (cases ha; done)
        | (simp only [Res.val.injEq] at ha; exact ha.2.2.1.symm)
  simp only [] at ha
  unfold load at ha
  repeat' split at ha
  all_goals first
    | (cases ha; done)
    | (simp only [Res.val.injEq] at ha; exact ha.2.2.1.symm)
    | (unfold loadN at ha; split at ha <;> first | (cases ha; done) | (simp only [Res.val.injEq] at ha; exact ha.2.2.1.symm))
theorem pass1_ok {ops : List Oper} {HS : List H} {MS : List Nat} {MM : Memo} : ∀ (l : List Oper) (i : Nat) (e : Env) (h : H) (hs : List H) (ms : List Nat) (memo : Memo), pass1 ty call tk ops l i e h hs ms memo = some (HS, MS, MM) → hs[ms.length]? = some h → hs.length = ms.length + 1 →
    (∀ (j : Nat) (x : H), hs[j]? = some x → HS[j]? = some x) ∧ ∀ q ∈ MM, q ∈ memo ∨ call q.2.1 q.2.2.1 (HS.getD q.1 []) = some (.ret q.2.2.2.1, HS.getD q.2.2.2.2 [])
  | [], i, e, h, hs, ms, memo, hr, h0, hl => by
    simp only [pass1, Option.some.injEq, Prod.mk.injEq] at hr
    obtain ⟨rfl, rfl, rfl⟩ := hr
    exact ⟨fun j x hx => hx, fun q hq => .inl hq⟩
  | o :: os, i, e, h, hs, ms, memo, hr, h0, hl => by
    have gd : ∀ {j : Nat} {x : H}, HS[j]? = some x → HS.getD j [] = x := fun hx => by simp [List.getD, hx]
    unfold pass1 at hr
    simp only [V.whnfL_eq] at hr
    split at hr
    · split at hr
      · rename_i f args ha
        split at hr
        · rename_i v h' hcl
          split at hr
          · rename_i hb
            have := heapB_eq _ _ hb
            subst this
            obtain ⟨k1, k2⟩ := pass1_ok os _ _ _ _ _ _ hr h0 hl
            refine ⟨k1, fun q hq => ?_⟩
            rcases k2 q hq with hm | hm
            · rcases List.mem_cons.1 hm with rfl | hm
              · refine .inr ?_
                simp only [gd (k1 _ _ h0)]
                exact hcl
              · exact .inl hm
            · exact .inr hm
          · have hl2 : (hs ++ [h']).length = (ms ++ [i]).length + 1 := by simp [hl]
            have h2 : (hs ++ [h'])[(ms ++ [i]).length]? = some h' := by
              rw [List.getElem?_append_right (by simp [hl])]
              simp [hl]
            obtain ⟨k1, k2⟩ := pass1_ok os _ _ _ _ _ _ hr h2 hl2
            have k3 : ∀ (j : Nat) (x : H), hs[j]? = some x → HS[j]? = some x := fun j x hx => k1 j x (by rw [List.getElem?_append_left (List.getElem?_eq_some_iff.1 hx).1]; exact hx)
            refine ⟨k3, fun q hq => ?_⟩
            rcases k2 q hq with hm | hm
            · rcases List.mem_cons.1 hm with rfl | hm
              · refine .inr ?_
                have e2 : HS[ms.length + 1]? = some h' := k1 _ _ (by simpa using h2)
                simp only [gd (k3 _ _ h0), gd e2]
                exact hcl
              · exact .inl hm
            · exact .inr hm
        · cases hr
      · rename_i v e' h' ha
        split at hr
        · have hl2 : (hs ++ [h']).length = (ms ++ [i]).length + 1 := by simp [hl]
          have h2 : (hs ++ [h'])[(ms ++ [i]).length]? = some h' := by
            rw [List.getElem?_append_right (by simp [hl])]
            simp [hl]
          obtain ⟨k1, k2⟩ := pass1_ok os _ _ _ _ _ _ hr h2 hl2
          exact ⟨fun j x hx => k1 j x (by rw [List.getElem?_append_left (List.getElem?_eq_some_iff.1 hx).1]; exact hx), k2⟩
        · exact pass1_ok os _ _ _ _ _ _ hr h0 hl
      · cases hr
    · exact pass1_ok os _ _ _ _ _ _ hr h0 hl
    · cases hr
theorem lookM_ok (hc : CallOK C call) {memo : Memo} {hs : List H} (hm : ∀ q ∈ memo, call q.2.1 q.2.2.1 (hs.getD q.1 []) = some (.ret q.2.2.2.1, hs.getD q.2.2.2.2 [])) {k : Nat} : ∀ f args r h', lookM call memo hs k f args (hs.getD k []) = some (r, h') → ∀ Q : Out → H → Prop, Q r h' → C f args (hs.getD k []) Q := by
  intro f args r h' hl
  unfold lookM at hl
  split at hl
  · rename_i q hq
    have hq1 := List.find?_some hq
    simp only [Bool.and_eq_true] at hq1
    have e1 : q.1 = k := Nat.eq_of_beq_eq_true hq1.1
    have e2 : q.2.1 = f := Nat.eq_of_beq_eq_true hq1.2.1
    have e3 : q.2.2.1 = args := V.beqL_eq _ _ hq1.2.2
    have := hm q (List.mem_of_find?_eq_some hq)
    rw [e1, e2, e3, hl] at this
    exact hc _ _ _ _ _ this
  · exact hc _ _ _ _ _ hl
theorem idxN_some {ms : List Nat} {i k : Nat} (h : idxN ms i = some k) : ms[k]? = some i := by
  unfold idxN at h
  have := List.find?_some h
  try dsimp only at this
  split at this
  · rename_i m hm
    rw [hm, Nat.eq_of_beq_eq_true this]
  · cases this
theorem idxN_none {ms : List Nat} {i : Nat} (h : idxN ms i = none) : i ∉ ms := by
  intro hm
  obtain ⟨k, hk⟩ := List.getElem?_of_mem hm
  unfold idxN at h
  have := List.find?_eq_none.1 h k (List.mem_range.2 (List.getElem?_eq_some_iff.1 hk).1)
  rw [hk] at this
  simp at this
theorem quietN_sound (hc : CallOK C call) {T : List Nat} {memo : Memo} {hs : List H} (hm : ∀ q ∈ memo, call q.2.1 q.2.2.1 (hs.getD q.1 []) = some (.ret q.2.2.2.1, hs.getD q.2.2.2.2 [])) {o : Oper} {e : Env} {k : Nat} {v : V} (hq : quietN ty call tk T memo hs o e k = some v) : QuietAt ty C tk T o e v (hs.getD k []) := by
  unfold quietN at hq
  split at hq
  · rename_i him
    split at hq
    · rename_i v' e1 h' hx
      split at hq
      · rename_i hb
        simp only [Bool.and_eq_true] at hb
        simp only [Option.some.injEq] at hq
        subst hq
        have ha := aopX_val hx
        rw [isM_load him hb.1 ha] at ha
        rw [heapB_eq _ _ hb.2] at ha
        exact .inr (.inr (.inr ⟨him, _, ha, rfl⟩))
      · cases hq
    · cases hq
  · split at hq
    · rename_i ht
      split at hq
      · rename_i v' e1 h' hx
        simp only [Option.some.injEq] at hq
        subst hq
        obtain ⟨s, hs'⟩ := Option.isSome_iff_exists.1 ht
        have ha := aopX_val hx
        rw [take_heap (takeT_of hs').1 ha] at ha
        exact .inr (.inl ⟨s, _, _, hs', ha, rfl⟩)
      · cases hq
    · rename_i ht
      split at hq
      · cases hq
      · rename_i htk
        rcases quietX_sound (lookM_ok hc hm) hq with ⟨p, ha, hp⟩ | ⟨f, args, ha, hcl⟩
        · exact .inl ⟨by simpa using ht, by simpa using htk, p, ha, hp⟩
        · exact .inr (.inr (.inl ⟨f, args, ha, hcl⟩))
theorem stepN_sound (hc : CallOK C call) {ops : List Oper} {T : List Nat} {memo : Memo} {hs : List H} (hm : ∀ q ∈ memo, call q.2.1 q.2.2.1 (hs.getD q.1 []) = some (.ret q.2.2.2.1, hs.getD q.2.2.2.2 [])) {ms : List Nat} {need : List (List Nat)} {i : Nat} {o : Oper} {e : Env} {v : V} (hw : wanted ops o e = some true) (hd : dstOk n o.dst) (hst : stepN ty call tk T memo hs ms need i o e = some v) :
    StepAtN ty C n tk T ops ms need (fun k => hs.getD k []) i o e v := by
  refine ⟨hd, .inr ?_⟩
  unfold stepN at hst
  split at hst
  · rename_i k hk
    refine .inl ⟨hw, k, idxN_some hk, ?_⟩
    split at hst
    · rename_i v' e1 h' hx
      split at hst
      · rename_i hb
        simp only [Bool.and_eq_true] at hb
        simp only [Option.some.injEq] at hst
        subst hst
        have ha := aopX_val hx
        rw [isM_load hb.1 hb.2.1 ha] at ha
        rw [heapB_eq _ _ hb.2.2] at ha
        exact .inl ⟨hb.1, _, ha, rfl⟩
      · cases hst
    · rename_i f args hx
      split at hst
      · rename_i v' h' hl
        split at hst
        · rename_i hb
          simp only [Option.some.injEq] at hst
          subst hst
          have := lookM_ok hc hm _ _ _ _ hl
          rw [heapB_eq _ _ hb] at this
          exact .inr ⟨f, args, aop_of hx, this⟩
        · cases hst
      · cases hst
    · cases hst
  · rename_i hk
    refine .inr ⟨hw, idxN_none hk, fun k hkl hal => ?_⟩
    have hkm : k ∈ (List.range (ms.length + 1)).filter (allow ms need i) := List.mem_filter.2 ⟨List.mem_range.2 (by omega), hal⟩
    split at hst
    · cases hst
    · rename_i k0 r hr
      rw [hr] at hkm
      split at hst
      · rename_i v' hq
        split at hst
        · rename_i hall
          simp only [Option.some.injEq] at hst
          subst hst
          rcases List.mem_cons.1 hkm with rfl | hkr
          · exact quietN_sound hc hm hq
          · have := List.all_eq_true.1 hall k hkr
            split at this
            · rename_i v2 hq2
              rw [← V.beq_eq _ _ this]
              exact quietN_sound hc hm hq2
            · cases this
        · cases hst
      · cases hst
theorem pass2_sound (hc : CallOK C call) {ops : List Oper} {T : List Nat} {memo : Memo} {hs : List H} (hm : ∀ q ∈ memo, call q.2.1 q.2.2.1 (hs.getD q.1 []) = some (.ret q.2.2.2.1, hs.getD q.2.2.2.2 [])) {ms : List Nat} {need : List (List Nat)} : ∀ (l : List Oper) (i : Nat) (env e : Env), pass2 ty call n tk ops T memo hs ms need l i env = some e →
    ∃ vals : List V, vals.length = l.length ∧ (∀ (j : Nat) (o : Oper) (v : V), l[j]? = some o → vals[j]? = some v → StepAtN ty C n tk T ops ms need (fun k => hs.getD k []) (i + j) o (putsL env (l.take j) (vals.take j)) v) ∧ e = putsL env l vals
  | [], i, env, e, hp => by
    simp only [pass2, Option.some.injEq] at hp
    exact ⟨[], rfl, fun j o v hj => by simp at hj, hp.symm⟩
  | o :: os, i, env, e, hp => by
    unfold pass2 at hp
    simp only [forceO_eq] at hp
    have fin : ∀ v : V, StepAtN ty C n tk T ops ms need (fun k => hs.getD k []) i o env v → pass2 ty call n tk ops T memo hs ms need os (i + 1) (putD o.dst env v) = some e →
        ∃ vals : List V, vals.length = (o :: os).length ∧ (∀ (j : Nat) (o' : Oper) (v : V), (o :: os)[j]? = some o' → vals[j]? = some v → StepAtN ty C n tk T ops ms need (fun k => hs.getD k []) (i + j) o' (putsL env ((o :: os).take j) (vals.take j)) v) ∧ e = putsL env (o :: os) vals := by
      intro v hv hp2
      obtain ⟨vals, k1, k2, k3⟩ := pass2_sound hc hm os (i + 1) _ e hp2
      refine ⟨v :: vals, by simp [k1], fun j o' v' ho hv' => ?_, k3⟩
      cases j with
      | zero => simp at ho hv'; subst ho; subst hv'; exact hv
      | succ j =>
        simp at ho hv'
        have := k2 j o' v' ho hv'
        rw [show i + 1 + j = i + (j + 1) by omega] at this
        exact this
    split at hp
    · rename_i hw
      split at hp
      · rename_i v hst
        split at hp
        · rename_i hd
          refine fin v (stepN_sound hc hm hw (dstX_ok hd) hst) ?_
          revert hp
          unfold putD
          cases o.dst <;> simp only [putF_eq] <;> exact fun h => h
        · cases hp
      · cases hp
    · rename_i hw
      split at hp
      · rename_i hd
        simp only [Bool.and_eq_true, Option.isNone_iff_eq_none] at hd
        refine fin (.tup []) ⟨dstX_ok hd.1, .inl ⟨hw, rfl, fun k hk => absurd (List.mem_of_getElem? hk) (idxN_none hd.2)⟩⟩ hp
      · cases hp
    · cases hp
theorem condN_ok {T ks : List Nat} {env : Env} {l : List Oper} (h : condN tk T ks env l = true) : ordB [] l = true ∧ keptB l ks env.keys = true ∧ takeB tk T l ks = true := by
  unfold condN at h
  simp only [Bool.and_eq_true] at h
  exact h
theorem condN2_ok {ms : List Nat} {need : List (List Nat)} {l : List Oper} (h : condN2 ms need l = true) : needOK l need = true ∧ chainOK ms need = true ∧ ms.all (fun m => decide (m < l.length)) = true := by
  unfold condN2 at h
  simp only [Bool.and_eq_true] at h
  exact h
theorem memo_ok {ops l : List Oper} {env : Env} {h : H} {hs : List H} {ms : List Nat} {memo : Memo} (hp : pass1 ty call tk ops l 0 env h [h] [] [] = some (hs, ms, memo)) : hs.getD 0 [] = h ∧ ∀ q ∈ memo, call q.2.1 q.2.2.1 (hs.getD q.1 []) = some (.ret q.2.2.2.1, hs.getD q.2.2.2.2 []) := by
  obtain ⟨k1, k2⟩ := pass1_ok _ _ _ _ _ _ _ hp rfl rfl
  refine ⟨by simp [List.getD, k1 0 h rfl], fun q hq => (k2 q hq).resolve_left (by simp)⟩
theorem drawMX_sound (hc : CallOK C call) (hC : CMono C C) {ops : List Oper} {env : Env} {h : H} {e : Ex} {env' : Env} {h' : H} (hs : drawMX ty call n keep (maskOf keep) tk ops env h = some (e, env', h')) {Q : PostX} (hq : Q e env' h') :
    evalAny ty C n tk ops (regQ keep Q) (panQ Q) ops.length (Array.replicate ops.length false) env h := by
  unfold drawMX at hs
  simp only [keepF_eq] at hs
  split at hs
  · rename_i t a x hl
    split at hs
    · rename_i hcond
      simp only [Bool.and_eq_true, decide_eq_true_eq, Bool.not_eq_true'] at hcond
      obtain ⟨⟨⟨⟨⟨⟨⟨c1, c2⟩, c4⟩, c5⟩, c6⟩, c7⟩, c8⟩, c9⟩ := hcond
      obtain ⟨m1, m3, m4⟩ := condN_ok c7
      unfold lastSt at hl
      split at hl
      · rename_i last hlast
        split at hl
        · rename_i t' a' x' ho hg hd
          simp only [Option.some.injEq, Prod.mk.injEq] at hl
          obtain ⟨rfl, rfl, rfl⟩ := hl
          split at hs
          · rename_i HS ms memo hp1
            split at hs
            · rename_i hc2
              obtain ⟨n1, n2, n3⟩ := condN2_ok hc2
              obtain ⟨j1, j2⟩ := memo_ok hp1
              split at hs
              · rename_i g hp
                obtain ⟨vals, v1, v2, v3⟩ := pass2_sound (C := C) hc j2 _ _ _ _ hp
                split at hs
                · rename_i v2' e2 h2 hst
                  rw [← j1]
                  refine any_drawNS (ms := ms) (hs := fun k => HS.getD k []) (takesX tk ops) hC (ops.length - 1) hlast c6 ho hg hd (by rw [c1, c2, c4, c5]; rfl) m1 n1 n2 n3 m3 m4 c8 c9 v1 (fun i o v hi hv => by have := v2 i o v hi hv; rwa [Nat.zero_add] at this) ?_
                  rw [getL_eq, getL_eq] at hst
                  have hst2 : store ty t' (g.get a').demote (g.get x') [] (HS.getD ms.length []) = .val (true = true) v2' e2.toE h2 := by have h9 := storeX_up ty t' (g.get a').demote (g.get x') (.of []) (HS.getD ms.length []); rw [hst] at h9; exact h9.symm
                  rw [← v3]
                  show stK _ _ _ _ _ _
                  unfold stK
                  rw [hst2]
                  refine ⟨rfl, ?_⟩
                  split at hs
                  · simp only [forceN_eq, forceAt_eq, Option.some.injEq, Prod.mk.injEq] at hs
                    obtain ⟨rfl, rfl, rfl⟩ := hs
                    exact hq
                  · cases hs
                · cases hs
              · cases hs
            · cases hs
          · cases hs
        · cases hl
      · cases hl
    · cases hs
  · split at hs
    · rename_i hcond
      obtain ⟨m1, m3, m4⟩ := condN_ok hcond
      split at hs
      · rename_i HS ms memo hp1
        split at hs
        · rename_i hc2
          obtain ⟨n1, n2, n3⟩ := condN2_ok hc2
          obtain ⟨j1, j2⟩ := memo_ok hp1
          split at hs
          · rename_i g hp
            obtain ⟨vals, v1, v2, v3⟩ := pass2_sound (C := C) hc j2 _ _ _ _ hp
            simp only [Option.some.injEq, Prod.mk.injEq] at hs
            obtain ⟨rfl, rfl, rfl⟩ := hs
            rw [← j1]
            refine any_drawN (ms := ms) (hs := fun k => HS.getD k []) (takesX tk ops) hC m1 n1 n2 n3 m3 m4 v1 (fun i o v hi hv => by have := v2 i o v hi hv; rwa [Nat.zero_add] at this) ?_
            rw [← v3]
            exact hq
          · cases hs
        · cases hs
      · cases hs
    · cases hs
theorem preX_sound (hc : CallOK C call) (hC : CMono C C) {ops : List Oper} {env : Env} {h : H} {env' : Env} {h' : H} (hs : preX ty call n keep (maskOf keep) tk ops env h = some (env', h')) {K : Env → H → Prop} {X : V → Env → H → Prop} (hk : K env' h') :
    evalAny ty C n tk ops (fun e h => K (e.keep keep) h) X ops.length (Array.replicate ops.length false) env h := by
  unfold preX at hs
  simp only [keepF_eq] at hs
  split at hs
  · rename_i e h1 hd
    simp only [Option.some.injEq, Prod.mk.injEq] at hs
    obtain ⟨rfl, rfl⟩ := hs
    exact drawMX_sound (C := C) (Q := fun x e h => match x with | .panic v => X v e h | _ => K e h) hc hC hd hk
  · split at hs
    · cases hs
    split at hs
    · rename_i e1 h1 r ha
      split at hs
      · rename_i hall
        simp only [Option.some.injEq, Prod.mk.injEq] at hs
        obtain ⟨rfl, rfl⟩ := hs
        refine anyX_sound hc _ _ _ _ _ ha fun q hqm => ?_
        rcases List.mem_cons.1 hqm with rfl | hqm
        · exact hk
        · have := List.all_eq_true.1 hall q hqm
          simp only [Bool.and_eq_true] at this
          show K (q.1.keep keep) q.2
          rw [envB_eq _ _ this.1, heapB_eq _ _ this.2]
          exact hk
      · cases hs
    · cases hs
theorem drawSX_sound (hc : CallOK C call) (hC : CMono C C) {ops : List Oper} {env : Env} {h : H} {e : Ex} {env' : Env} {h' : H} (hs : drawSX ty call n keep (maskOf keep) tk ops env h = some (e, env', h')) {Q : PostX} (hq : Q e env' h') :
    evalSplit ty C n tk ops (regQ keep Q) (panQ Q) env h := by
  unfold drawSX at hs
  simp only [keepF_eq] at hs
  split at hs
  · rename_i p hp
    have hp1 := List.find?_some hp
    simp only [Bool.and_eq_true] at hp1
    split at hs
    · rename_i e1 h1 hd
      split at hs
      · rename_i e2 h2 r ha
        split at hs
        · rename_i hall
          simp only [Option.some.injEq, Prod.mk.injEq] at hs
          obtain ⟨rfl, rfl, rfl⟩ := hs
          refine ⟨p, keep, hp1.2.2.1, hp1.2.2.2, ?_⟩
          have hpl : (ops.take p).length = p := by
            have := hp1.2.2.1
            unfold splitB at this
            simp only [Bool.and_eq_true] at this
            have := Nat.le_of_ble_eq_true this.1
            rw [List.length_take]; omega
          have hmain : evalAny ty C n tk ops (regQ keep Q) (panQ Q) (ops.length - p) ((List.replicate p true ++ List.replicate (ops.length - p) false).toArray) e1 h1 := by
            refine anyX_sound hc _ _ _ _ _ ha fun q hqm => ?_
            rcases List.mem_cons.1 hqm with rfl | hqm
            · exact hq
            · have := List.all_eq_true.1 hall q hqm
              simp only [Bool.and_eq_true] at this
              show Q .normal (q.1.keep keep) q.2
              rw [envB_eq _ _ this.1, heapB_eq _ _ this.2]
              exact hq
          have := preX_sound (C := C) (X := panQ Q) (K := fun e h => evalAny ty C n tk ops (regQ keep Q) (panQ Q) (ops.length - p) ((List.replicate p true ++ List.replicate (ops.length - p) false).toArray) e h) hc hC hd hmain
          rw [hpl] at this
          exact this
        · cases hs
      · cases hs
    · cases hs
  · cases hs
theorem drawX_sound (hc : CallOK C call) (hC : CMono C C) {id : Nat} {ops : List Oper} {env : Env} {h : H} {e : Ex} {env' : Env} {h' : H} (hs : drawX ty call n keep (maskOf keep) tk ops env h = some (e, env', h')) {Q : PostX} (hq : Q e env' h') :
    wp ty C n keep tk (.region id ⟨ops⟩ true) Q env h := by
  unfold drawX at hs
  simp only [keepF_eq] at hs
  split at hs
  · rename_i hb
    simp only [Bool.and_eq_true] at hb
    split at hs
    · rename_i e1 hp
      simp only [Option.some.injEq, Prod.mk.injEq] at hs
      obtain ⟨rfl, rfl, rfl⟩ := hs
      exact wp_draw hC hb.1.1 hb.1.2 (pureX_sound hc ops env h e1 hp hq)
    · cases hs
  split at hs
  · simp only [wp, if_true]
    exact .inr (drawSX_sound hc hC hs hq)
  · split at hs
    · rename_i r hd
      simp only [Option.some.injEq] at hs
      subst hs
      simp only [wp, if_true]
      exact .inl (drawMX_sound hc hC hd hq)
    split at hs
    · simp only [wp, if_true]
      exact .inr (drawSX_sound hc hC hs hq)
    split at hs
    · rename_i e1 h1 r ha
      split at hs
      · rename_i hall
        simp only [Option.some.injEq, Prod.mk.injEq] at hs
        obtain ⟨rfl, rfl, rfl⟩ := hs
        simp only [wp, if_true]
        refine .inl ?_
        show evalAny ty C n tk ops _ _ ops.length (Array.replicate ops.length false) env h
        refine anyX_sound hc _ _ _ _ _ ha fun q hqm => ?_
        rcases List.mem_cons.1 hqm with rfl | hqm
        · exact hq
        · have := List.all_eq_true.1 hall q hqm
          simp only [Bool.and_eq_true] at this
          show Q .normal (q.1.keep keep) q.2
          rw [envB_eq _ _ this.1, heapB_eq _ _ this.2]
          exact hq
      · cases hs
    · cases hs
theorem drawX_kept {ops : List Oper} {env : Env} {h : H} {e : Ex} {env' : Env} {h' : H} (hs : drawX ty call n keep (maskOf keep) tk ops env h = some (e, env', h')) : e = .normal ∧ env'.keep keep = env' := by
  have hm : ∀ {ops : List Oper} {e : Ex} {env' : Env} {h' : H}, drawMX ty call n keep (maskOf keep) tk ops env h = some (e, env', h') → e = .normal ∧ env'.keep keep = env' := fun hs => by
    unfold drawMX at hs
    simp only [keepF_eq] at hs
    repeat' split at hs
    all_goals first
      | (cases hs; done)
      | (simp only [forceN_eq, forceAt_eq, Option.some.injEq, Prod.mk.injEq] at hs
         obtain ⟨rfl, rfl, rfl⟩ := hs
         exact ⟨rfl, keep_keep _ _⟩)
  have hsx : drawSX ty call n keep (maskOf keep) tk ops env h = some (e, env', h') → e = .normal ∧ env'.keep keep = env' := fun hs => by
    unfold drawSX at hs
    simp only [keepF_eq] at hs
    repeat' split at hs
    all_goals first
      | (cases hs; done)
      | (simp only [Option.some.injEq, Prod.mk.injEq] at hs
         obtain ⟨rfl, rfl, rfl⟩ := hs
         exact ⟨rfl, keep_keep _ _⟩)
  unfold drawX at hs
  simp only [keepF_eq] at hs
  split at hs
  · split at hs
    · simp only [Option.some.injEq, Prod.mk.injEq] at hs
      obtain ⟨rfl, rfl, rfl⟩ := hs
      exact ⟨rfl, keep_keep _ _⟩
    · cases hs
  split at hs
  · exact hsx hs
  split at hs
  · rename_i r hd
    simp only [Option.some.injEq] at hs
    subst hs
    exact hm hd
  split at hs
  · exact hsx hs
  split at hs
  · split at hs
    · simp only [Option.some.injEq, Prod.mk.injEq] at hs
      obtain ⟨rfl, rfl, rfl⟩ := hs
      exact ⟨rfl, keep_keep _ _⟩
    · cases hs
  · cases hs
def Ex.isPan : Ex → Bool
  | .panic _ => true
  | _ => false
theorem codeX_kept : ∀ (k : Nat) (c : Code) (env : Env) (h : H) (e : Ex) (env' : Env) (h' : H), codeX ty call n keep (maskOf keep) tk k c env h = some (e, env', h') → env.keep keep = env → e.isPan = false → env'.keep keep = env'
  | 0, c, env, h, e, env', h', hs, hk, he => by cases hs
  | k + 1, c, env, h, e, env', h', hs, hk, he => by
    unfold codeX at hs
    cases c with
    | skip =>
      simp only [Option.some.injEq, Prod.mk.injEq] at hs
      obtain ⟨rfl, rfl, rfl⟩ := hs
      exact hk
    | region id ops draw =>
      simp only [] at hs
      split at hs
      · exact (drawX_kept hs).2
      · split at hs
        · cases hs
        · split at hs
          · rename_i t1 b1 h1 ho
            have hb1 : b1.keep keep = b1 := by have := opsX_base _ _ _ _ _ _ ho; rw [show b1 = env from this]; exact hk
            simp only [finF_eq keep hb1, Option.some.injEq, Prod.mk.injEq] at hs
            obtain ⟨rfl, rfl, rfl⟩ := hs
            exact keep_keep _ _
          · rename_i e1 x h1 hne ho
            simp only [Option.some.injEq, Prod.mk.injEq] at hs
            obtain ⟨rfl, rfl, rfl⟩ := hs
            exfalso
            rcases opsX_ends _ _ _ _ _ _ ho with rfl | ⟨v, rfl⟩
            · obtain ⟨t, b⟩ := x
              exact hne t b rfl rfl
            · cases he
          · cases hs
    | seq a b =>
      simp only [] at hs
      split at hs
      · rename_i e1 h1 ha
        exact codeX_kept k b _ _ _ _ _ hs (codeX_kept k a _ _ _ _ _ ha hk rfl) he
      · exact codeX_kept k a _ _ _ _ _ hs hk he
    | cond c a b =>
      simp only [] at hs
      split at hs
      · exact codeX_kept k _ _ _ _ _ _ hs hk he
      · cases hs
    | block id b =>
      simp only [] at hs
      split at hs
      · rename_i i e1 h1 hb
        have := codeX_kept k b _ _ _ _ _ hb hk rfl
        split at hs
        all_goals
          simp only [Option.some.injEq, Prod.mk.injEq] at hs
          obtain ⟨rfl, rfl, rfl⟩ := hs
          exact this
      · exact codeX_kept k b _ _ _ _ _ hs hk he
    | loop b =>
      simp only [] at hs
      split at hs
      · rename_i e1 h1 ha
        exact codeX_kept k _ _ _ _ _ _ hs (codeX_kept k b _ _ _ _ _ ha hk rfl) he
      · exact codeX_kept k b _ _ _ _ _ hs hk he
    | exit id =>
      simp only [Option.some.injEq, Prod.mk.injEq] at hs
      obtain ⟨rfl, rfl, rfl⟩ := hs
      exact hk
    | ret =>
      simp only [Option.some.injEq, Prod.mk.injEq] at hs
      obtain ⟨rfl, rfl, rfl⟩ := hs
      exact hk
    | _ => cases hs
/-- What a code comes to. -/
theorem codeX_sound (hc : CallOK C call) (hC : CMono C C) : ∀ (k : Nat) (c : Code) (env : Env) (h : H) (e : Ex) (env' : Env) (h' : H), codeX ty call n keep (maskOf keep) tk k c env h = some (e, env', h') → env.keep keep = env →
    (∀ Q : PostX, Q e env' h' → wp ty C n keep tk c Q env h) ∧ ∀ b, c = .loop b → ∀ (Q : PostX) (he : H) (I : Env → H → Prop), Q e env' h' → (∀ env1 h1, wp ty C n keep tk b (thenQ (Wk he I) Q) env1 h1 → I env1 h1) → I env h
  | 0, c, env, h, e, env', h', hs, hkp => by cases hs
  | k + 1, c, env, h, e, env', h', hs, hkp => by
    unfold codeX at hs
    cases c with
    | skip =>
      simp only [Option.some.injEq, Prod.mk.injEq] at hs
      obtain ⟨rfl, rfl, rfl⟩ := hs
      exact ⟨fun Q hq => by rw [wp_skip]; exact hq, fun b hb => by cases hb⟩
    | region id ops draw =>
      refine ⟨fun Q hq => ?_, fun b hb => by cases hb⟩
      simp only [] at hs
      split at hs
      · rename_i hd
        subst hd
        exact drawX_sound (id := id) hc hC hs hq
      · rename_i hd
        have hd : draw = false := by simpa using hd
        subst hd
        split at hs
        · cases hs
        · rename_i hin
          refine wp_region_i (l := ops.toList) hin ?_
          split at hs
          · rename_i t1 b1 h1 ho
            have hb1 : b1.keep keep = b1 := by have := opsX_base _ _ _ _ _ _ ho; rw [show b1 = env from this]; exact hkp
            simp only [finF_eq keep hb1, Option.some.injEq, Prod.mk.injEq] at hs
            obtain ⟨rfl, rfl, rfl⟩ := hs
            exact opsX_sound hc _ (.mk [] env) _ _ _ _ ho (fun _ => hq) (fun v hv => by cases hv)
          · rename_i e1 x h1 hne ho
            simp only [Option.some.injEq, Prod.mk.injEq] at hs
            obtain ⟨rfl, rfl, rfl⟩ := hs
            refine opsX_sound hc _ (.mk [] env) _ _ _ _ ho (fun he => ?_) (fun v hv => ?_)
            · subst he; obtain ⟨t, b⟩ := x; exact absurd rfl (hne t b · rfl)
            · subst hv; exact hq
          · cases hs
    | seq a b =>
      refine ⟨fun Q hq => ?_, fun b hb => by cases hb⟩
      rw [wp_seq]
      simp only [] at hs
      split at hs
      · rename_i e1 h1 ha
        exact (codeX_sound hc hC k a _ _ _ _ _ ha hkp).1 _ ((codeX_sound hc hC k b _ _ _ _ _ hs (codeX_kept k a _ _ _ _ _ ha hkp rfl)).1 Q hq)
      · rename_i hne
        refine (codeX_sound hc hC k a _ _ _ _ _ hs hkp).1 _ ?_
        cases e <;> first | exact hq | exact absurd hs (hne _ _)
    | cond c a b =>
      refine ⟨fun Q hq => ?_, fun b hb => by cases hb⟩
      rw [wp_cond]
      simp only [] at hs
      rw [evF_eq] at hs
      replace hs : (match ev ty env 0 c with | .bool t => codeX ty call n keep (maskOf keep) tk k (if t = true then a else b) env h | _ => none) = some (e, env', h') := hs
      split at hs
      · rename_i t hv
        rw [hv]
        have hq2 : wkQ h Q e env' h' := by cases e <;> first | exact Wk.same hq | exact hq
        cases t with
        | true => rw [condK_tt]; rw [if_pos rfl] at hs; exact (codeX_sound hc hC k a _ _ _ _ _ hs hkp).1 _ hq2
        | false => rw [condK_ff]; rw [if_neg (by decide)] at hs; exact (codeX_sound hc hC k b _ _ _ _ _ hs hkp).1 _ hq2
      · cases hs
    | block id b =>
      refine ⟨fun Q hq => ?_, fun b hb => by cases hb⟩
      rw [wp_block]
      simp only [] at hs
      split at hs
      · rename_i i e1 h1 hb
        split at hs
        · rename_i hi
          simp only [Option.some.injEq, Prod.mk.injEq] at hs
          obtain ⟨rfl, rfl, rfl⟩ := hs
          refine (codeX_sound hc hC k b _ _ _ _ _ hb hkp).1 _ ?_
          show (if i = id then _ else _)
          rw [if_pos hi]
          exact Wk.same hq
        · rename_i hi
          simp only [Option.some.injEq, Prod.mk.injEq] at hs
          obtain ⟨rfl, rfl, rfl⟩ := hs
          refine (codeX_sound hc hC k b _ _ _ _ _ hb hkp).1 _ ?_
          show (if i = id then _ else _)
          rw [if_neg hi]
          exact hq
      · rename_i hne
        refine (codeX_sound hc hC k b _ _ _ _ _ hs hkp).1 _ ?_
        cases e <;> first | exact Wk.same hq | exact absurd hs (hne _ _ _) | exact hq
    | loop b =>
      have key : ∀ (Q : PostX) (he : H) (I : Env → H → Prop), Q e env' h' → (∀ env1 h1, wp ty C n keep tk b (thenQ (Wk he I) Q) env1 h1 → I env1 h1) → I env h := fun Q he I hq hI => by
        refine hI _ _ ?_
        simp only [] at hs
        split at hs
        · rename_i e1 h1 hb
          exact (codeX_sound hc hC k b _ _ _ _ _ hb hkp).1 _ (Wk.same ((codeX_sound hc hC k (.loop b) _ _ _ _ _ hs (codeX_kept k b _ _ _ _ _ hb hkp rfl)).2 b rfl Q he I hq hI))
        · rename_i hne
          refine (codeX_sound hc hC k b _ _ _ _ _ hs hkp).1 _ ?_
          cases e <;> first | exact hq | exact absurd hs (hne _ _)
      refine ⟨fun Q hq => ?_, fun b' hb' => by cases hb'; exact key⟩
      simp only [wp]
      exact fun I hI => Wk.same (key Q h I hq hI)
    | exit id =>
      simp only [Option.some.injEq, Prod.mk.injEq] at hs
      obtain ⟨rfl, rfl, rfl⟩ := hs
      exact ⟨fun Q hq => by rw [wp_exit]; exact hq, fun b hb => by cases hb⟩
    | ret =>
      simp only [Option.some.injEq, Prod.mk.injEq] at hs
      obtain ⟨rfl, rfl, rfl⟩ := hs
      exact ⟨fun Q hq => by rw [wp_ret]; exact hq, fun b hb => by cases hb⟩
    | _ => cases hs
end
end
end Go.Proofs.YtiigffdmjdooeaaGreatDoor.Pv
set_option linter.unusedVariables false
set_option linter.unusedSimpArgs false
set_option maxHeartbeats 1000000
namespace Go.Proofs.YtiigffdmjdooeaaGreatDoor.Pv
open Go
noncomputable section

/-- A function, as the run reads it. -/
structure FX where
  body : Code
  ntmps : Nat
  results : List ResultVar
  keep : List Nat
  tk : List Nat
section
variable (ty : Nat → Ty) (call : FuncId → List V → H → Option (Out × H)) (n : Nat) (keep : List Nat) (mask : Nat) (tk : List Nat)
def deferOf : Code → Option (List Oper × List Oper × Operand)
  | .region _ ops false => (lastDefer ops.toList).map fun q => (ops.toList, q.1, q.2)
  | _ => none
def codeDX : Nat → Code → Env → H → Option (Option (FuncId × List V) × Ex × Env × H)
  | 0, _, _, _ => none
  | k + 1, c, env, h =>
    match c with
    | .seq x y =>
      (match deferOf x with
      | some (ops, os, f) =>
        (match opsX ty call n tk ops os (.mk [] env) h with
        | some (.normal, .mk t b, h1) =>
          (match evF ty (.mk t b) 0 f with
          | .func (.func j) [] cap => finF mask t b fun e => (match codeX ty call n keep mask tk k y e h1 with | some (ex, e2, h2) => some (some (j, cap), ex, e2, h2) | none => none)
          | _ => none)
        | some (.panic v, e, h1) => some (none, .panic v, e.toE, h1)
        | _ => none)
      | none => (match codeX ty call n keep mask tk k x env h with
        | some (.normal, e, h1) => codeDX k y e h1
        | some (ex, e, h1) => some (none, ex, e, h1)
        | none => none))
    | c => (match codeX ty call n keep mask tk k c env h with | some (ex, e, h1) => some (none, ex, e, h1) | none => none)
def isRec (o : Oper) : Bool :=
  match o.op, o.guard with
  | .call { callee := .builtin .recover, args := ⟨[]⟩, argTypes := ⟨[]⟩ }, none => true
  | _, _ => false
def closeX (tab : FuncId → Option FX) (k : Nat) (j : FuncId) (caps : List V) (pv : V) (h : H) : Option H :=
  match tab j with
  | none => none
  | some x =>
    match x.body, x.results with
    | .seq (.region _ ⟨[o1, o2]⟩ false) rest, [] =>
      (match o1.dst, o2.dst, o2.op, o2.guard with
      | some r, some y, .assign (.tmp r'), none =>
        if isRec o1 && r == r' && decide (caps.length ≤ x.ntmps) && decide (r < x.ntmps) && decide (y < x.ntmps) then
          (if Nat.beq ((((initEnv x.keep (caps.map V.demote)).put r .top).put y pv).keep x.keep).length (((initEnv x.keep (caps.map V.demote)).put r .top).put y pv).length then
            (match codeX ty call x.ntmps x.keep (maskOf x.keep) x.tk k rest (((initEnv x.keep (caps.map V.demote)).put r .top).put y pv) h with
            | some (.normal, _, h') => some h'
            | some (.ret, _, h') => some h'
            | _ => none) else none)
        else none
      | _, _, _, _ => none)
    | _, _ => none
def retX (rs : List ResultVar) (h0 : H) (env : Env) (h : H) : Option (Out × H) :=
  match results ty rs env h with
  | some v =>
    V.whnf v fun v =>
    if Nat.beq h0.length h.length then some (.ret v, h) else
    if decide (h0.length ≤ h.length) && V.clB h0.length (handed h h0.length v) && (h.take h0.length).all (AObj.clB h0.length) then V.force (handed h h0.length v) fun w => forceH (h.take h0.length) fun h2 => some (.ret w, h2)
    else some (.ret v, h)
  | none => none
def pvX : Ex → Option V
  | .normal => some .nili
  | .ret => some .nili
  | .panic v => some v
  | _ => none
end
section
variable (ty : Nat → Ty) (tab : FuncId → Option FX) (pr : FuncId → List V → H → Option (Out × H))
def callX : Nat → FuncId → List V → H → Option (Out × H)
  | 0, _, _, _ => none
  | k + 1, f, args, h =>
    match pr f args h with
    | some r => some r
    | none =>
      match tab f with
      | none => none
      | some x =>
        if args.length ≤ x.ntmps then
          forceEV (initEnv x.keep (args.map V.demote)) fun e0 => (match codeDX ty (callX k) x.ntmps x.keep (maskOf x.keep) x.tk k x.body e0 h with
          | some (none, .normal, e, h1) => retX ty x.results h e h1
          | some (none, .ret, e, h1) => retX ty x.results h e h1
          | some (none, .panic v, e, h1) => some (.panic v, h1)
          | some (some (j, cap), ex, e, h1) =>
            (match pvX ex with
            | some pv => (match closeX ty (callX k) tab k j cap pv h1 with | some h2 => retX ty x.results h e h2 | none => none)
            | none => none)
          | _ => none)
        else none
end
section
variable {ty : Nat → Ty} {call : FuncId → List V → H → Option (Out × H)} {C : CallP} {n : Nat} {keep tk : List Nat} {P : Program} {prim : CallP} {tab : FuncId → Option FX} {pr : FuncId → List V → H → Option (Out × H)}
theorem keep_len (ks : List Nat) : ∀ e : Env, (e.keep ks).length ≤ e.length ∧ ((e.keep ks).length = e.length → e.keep ks = e)
  | [] => ⟨Nat.le_refl _, fun _ => rfl⟩
  | (j, u) :: r => by
    obtain ⟨h1, h2⟩ := keep_len ks r
    simp only [Env.keep]
    by_cases hk : ks.contains j = true
    · rw [if_pos hk]
      exact ⟨by simp only [List.length_cons]; omega, fun h => by rw [h2 (by simpa using h)]⟩
    · rw [if_neg hk]
      exact ⟨by simp only [List.length_cons]; omega, fun h => by simp only [List.length_cons] at h; omega⟩
theorem init_kept (ks : List Nat) (args : List V) : (initEnv ks args).keep ks = initEnv ks args := by
  have : ∀ l : List Nat, (∀ i ∈ l, i ∈ ks) → Env.keep (l.map fun i => (i, args.getD i .top)) ks = l.map fun i => (i, args.getD i .top) := by
    intro l
    induction l with
    | nil => intro _; rfl
    | cons i l ih =>
      intro h
      simp only [List.map_cons, Env.keep]
      rw [if_pos (by simpa using h i List.mem_cons_self), ih fun j hj => h j (List.mem_cons_of_mem _ hj)]
  exact this ks fun _ h => h
theorem deferOf_some {x : Code} {ops os : List Oper} {f : Operand} (hd : deferOf x = some (ops, os, f)) : ∃ id, x = .region id ⟨ops⟩ false ∧ lastDefer ops = some (os, f) := by
  cases x <;> try (cases hd; done)
  rename_i id o d
  cases d <;> try (cases hd; done)
  simp only [deferOf, Option.map_eq_some_iff] at hd
  obtain ⟨⟨a, b⟩, h1, h2⟩ := hd
  simp only [Prod.mk.injEq] at h2
  obtain ⟨rfl, rfl, rfl⟩ := h2
  exact ⟨id, rfl, h1⟩
theorem deferOf_none {x : Code} (hd : deferOf x = none) : noDef x = true := by
  cases x <;> try rfl
  rename_i id o d
  cases d
  · simp only [deferOf, Option.map_eq_none_iff] at hd
    simp [noDef, hd]
  · rfl
theorem codeDX_sound (hc : CallOK C call) (hC : CMono C C) : ∀ (k : Nat) (c : Code) (env : Env) (h : H) (d : Option (FuncId × List V)) (e : Ex) (env' : Env) (h' : H), codeDX ty call n keep (maskOf keep) tk k c env h = some (d, e, env', h') → env.keep keep = env →
    ∀ (Q : PostX) (QD : FuncId → List V → PostX), (match d with | none => Q e env' h' | some (j, cap) => QD j cap e env' h') → wpD ty C n keep tk c Q QD env h
  | 0, c, env, h, d, e, env', h', hs, hkp => by cases hs
  | k + 1, c, env, h, d, e, env', h', hs, hkp => by
    intro Q QD hq
    have plain : ∀ c : Code, (∀ x y, c ≠ .seq x y) → (match codeX ty call n keep (maskOf keep) tk k c env h with | some (ex, e, h1) => some ((none : Option (FuncId × List V)), ex, e, h1) | none => none) = some (d, e, env', h') → wpD ty C n keep tk c Q QD env h := fun c hne hs => by
      split at hs
      · rename_i ex e1 h1 ho
        simp only [Option.some.injEq, Prod.mk.injEq] at hs
        obtain ⟨rfl, rfl, rfl, rfl⟩ := hs
        have := (codeX_sound hc hC k c _ _ _ _ _ ho hkp).1 Q hq
        cases c <;> first | exact this | exact absurd rfl (hne _ _)
      · cases hs
    unfold codeDX at hs
    split at hs
    · rename_i x y
      split at hs
      · rename_i ops os f hd
        obtain ⟨id, rfl, hl⟩ := deferOf_some hd
        refine wpD_defer hl ?_
        split at hs
        · rename_i t1 b1 h1 ho
          have hb1 : b1.keep keep = b1 := by have := opsX_base _ _ _ _ _ _ ho; rw [show b1 = env from this]; exact hkp
          split at hs
          · rename_i j cap hf
            simp only [finF_eq keep hb1] at hs
            split at hs
            · rename_i ex e2 h2 hy
              simp only [Option.some.injEq, Prod.mk.injEq] at hs
              obtain ⟨rfl, rfl, rfl, rfl⟩ := hs
              rw [evF_eq] at hf
              refine opsX_sound hc _ (.mk [] env) _ _ _ _ ho (fun _ => ⟨j, cap, hf, ?_⟩) (fun v hv => by cases hv)
              exact (codeX_sound hc hC k y _ _ _ _ _ hy (keep_keep _ _)).1 _ hq
            · cases hs
          · cases hs
        · rename_i v e1 h1 ho
          simp only [Option.some.injEq, Prod.mk.injEq] at hs
          obtain ⟨rfl, rfl, rfl, rfl⟩ := hs
          exact opsX_sound hc _ (.mk [] env) _ _ _ _ ho (fun he => by cases he) (fun v hv => by cases hv; exact hq)
        · cases hs
      · rename_i hd
        rw [wpD_seq (deferOf_none hd)]
        split at hs
        · rename_i e1 h1 ho
          exact (codeX_sound hc hC k x _ _ _ _ _ ho hkp).1 _ (codeDX_sound hc hC k y _ _ _ _ _ _ hs (codeX_kept k x _ _ _ _ _ ho hkp rfl) Q QD hq)
        · rename_i ex e1 h1 hne ho
          simp only [Option.some.injEq, Prod.mk.injEq] at hs
          obtain ⟨rfl, rfl, rfl, rfl⟩ := hs
          refine (codeX_sound hc hC k x _ _ _ _ _ ho hkp).1 _ ?_
          cases ex <;> first | exact hq | exact (hne rfl).elim
        · cases hs
    · rename_i hne
      exact plain _ (fun x y e => hne x y e) hs
theorem retX_ret {rs : List ResultVar} {h0 : H} {env : Env} {h : H} {r : Out} {h' : H} (hs : retX ty rs h0 env h = some (r, h')) {Q : Out → H → Prop} (hq : Q r h') : ∃ trunc, ∀ e, e = .normal ∨ e = .ret → retQ ty rs trunc h0 Q e env h := by
  unfold retX at hs
  simp only [V.force_eq, V.whnf_eq, forceH_eq] at hs
  split at hs
  · rename_i v hv
    split at hs
    · simp only [Option.some.injEq, Prod.mk.injEq] at hs
      obtain ⟨rfl, rfl⟩ := hs
      refine ⟨false, fun e he => ?_⟩
      have key : ∃ v', V.Le v v' ∧ (if false = true then leaveQ h0 h v' Q else Q (.ret v') h) := ⟨v, .refl _, by rw [if_neg (by decide)]; exact hq⟩
      rcases he with rfl | rfl <;> simp only [retQ, hv] <;> exact key
    split at hs
    · rename_i hb
      simp only [Option.some.injEq, Prod.mk.injEq] at hs
      obtain ⟨rfl, rfl⟩ := hs
      simp only [Bool.and_eq_true, decide_eq_true_eq] at hb
      refine ⟨true, fun e he => ?_⟩
      have key : ∃ v', V.Le v v' ∧ (if true = true then leaveQ h0 h v' Q else Q (.ret v') h) := ⟨v, .refl _, by
        rw [if_pos rfl]
        refine ⟨hb.1.1, V.clB_cl _ _ hb.1.2, .inr fun i o ho => .inl ?_, hq⟩
        exact AObj.clB_cl _ _ (List.all_eq_true.1 hb.2 o (List.mem_of_getElem? ho))⟩
      rcases he with rfl | rfl <;> simp only [retQ, hv] <;> exact key
    · simp only [Option.some.injEq, Prod.mk.injEq] at hs
      obtain ⟨rfl, rfl⟩ := hs
      refine ⟨false, fun e he => ?_⟩
      have key : ∃ v', V.Le v v' ∧ (if false = true then leaveQ h0 h v' Q else Q (.ret v') h) := ⟨v, .refl _, by rw [if_neg (by decide)]; exact hq⟩
      rcases he with rfl | rfl <;> simp only [retQ, hv] <;> exact key
  · cases hs
/-- The table says what the program has. -/
def TabOK (P : Program) (tab : FuncId → Option FX) : Prop := ∀ f x, tab f = some x → ∃ fn, P.funcs[f]? = some fn ∧ (fn.name == "runtime.NumGoroutine") = false ∧ fn.body = some x.body ∧ fn.ntmps = x.ntmps ∧ fn.results.toList = x.results
def fxOf (fn : Func) (keep tk : List Nat) : FX := ⟨fn.body.getD .skip, fn.ntmps, fn.results.toList, keep, tk⟩
def tabOf (P : Program) (kt : FuncId → Option (List Nat × List Nat)) (f : FuncId) : Option FX :=
  match kt f with
  | some (k, t) => (match P.funcs[f]? with | some fn => some (fxOf fn k t) | none => none)
  | none => none
theorem tabOf_ok {kt : FuncId → Option (List Nat × List Nat)} (h : ∀ f q, kt f = some q → ∃ fn, P.funcs[f]? = some fn ∧ (fn.name == "runtime.NumGoroutine") = false ∧ fn.body.isSome = true) : TabOK P (tabOf P kt) := by
  intro f x hx
  unfold tabOf at hx
  split at hx
  · rename_i k t hk
    obtain ⟨fn, h1, h2, h3⟩ := h f _ hk
    rw [h1] at hx
    simp only [Option.some.injEq] at hx
    subst hx
    refine ⟨fn, h1, h2, ?_, rfl, rfl⟩
    show fn.body = some (fn.body.getD .skip)
    cases hc : fn.body with
    | none => rw [hc] at h3; cases h3
    | some c => rfl
  · cases hx
theorem isRec_eq {o : Oper} (h : isRec o = true) : o.op = .call { callee := .builtin .recover, args := #[], argTypes := #[] } ∧ o.guard = none := by
  unfold isRec at h
  split at h
  · rename_i h1 h2; exact ⟨h1, h2⟩
  · cases h
theorem closeX_sound (hc : CallOK C call) (hC : CMono C C) (ht : TabOK P tab) {k : Nat} {j : FuncId} {caps : List V} {pv : V} {h h' : H} (hs : closeX ty call tab k j caps pv h = some h') {K : H → Prop} (hk : K h') : closeC P ty C j caps pv h K := by
  unfold closeX at hs
  split at hs
  · cases hs
  rename_i x hx
  obtain ⟨fn, h1, h2, h3, h4, h5⟩ := ht j x hx
  split at hs
  · rename_i id o1 o2 rest hb hr
    split at hs
    · rename_i r y r' e1 e2 e3 e4
      split at hs
      · rename_i hcond
        simp only [Bool.and_eq_true, decide_eq_true_eq, beq_iff_eq] at hcond
        obtain ⟨⟨⟨⟨hrec, rfl⟩, hl⟩, hr1⟩, hy1⟩ := hcond
        obtain ⟨g1, g2⟩ := isRec_eq hrec
        refine ⟨fn, id, o1, o2, rest, x.keep, x.tk, r, y, h1, h2, by rw [h3, hb], ⟨e1, g1, g2⟩, ⟨e2, e3, e4⟩, ?_, by rw [h4]; exact hl, by rw [h4]; exact hr1, by rw [h4]; exact hy1, ?_⟩
        · apply Array.toList_inj.1
          rw [h5, hr]
        · rw [h4]
          split at hs
          case isFalse => cases hs
          rename_i hlen
          have hkp := (keep_len x.keep _).2 (Nat.eq_of_beq_eq_true hlen)
          split at hs
          · rename_i e0 h1' ho
            simp only [Option.some.injEq] at hs
            subst hs
            exact (codeX_sound hc hC k rest _ _ _ _ _ ho hkp).1 _ hk
          · rename_i e0 h1' ho
            simp only [Option.some.injEq] at hs
            subst hs
            exact (codeX_sound hc hC k rest _ _ _ _ _ ho hkp).1 _ hk
          · cases hs
      · cases hs
    · cases hs
  · cases hs
/-- What a call comes to. -/
theorem callX_sound (hp : PMono prim) (ht : TabOK P tab) (hpr : CallOK (ACall P ty prim) pr) : ∀ k, CallOK (ACall P ty prim) (callX ty tab pr k)
  | 0, f, args, h, r, h', hs, Q, hq => by cases hs
  | k + 1, f, args, h, r, h', hs, Q, hq => by
    have hc := callX_sound hp ht hpr k
    have hC := acall_mono (P := P) (ty := ty) hp
    unfold callX at hs
    simp only [forceEV_eq] at hs
    split at hs
    · rename_i r' hr
      simp only [Option.some.injEq] at hs
      subst hs
      exact hpr _ _ _ _ _ hr Q hq
    · split at hs
      · cases hs
      · rename_i x hx
        obtain ⟨fn, h1, h2, h3, h4, h5⟩ := ht f x hx
        split at hs
        case isFalse => cases hs
        rename_i hl
        split at hs
        · rename_i e h1' ho
          obtain ⟨trunc, hret⟩ := retX_ret hs hq
          exact acallD hp h1 h3 h2 h4 h5 x.keep x.tk trunc hl (codeDX_sound hc hC k _ _ _ _ _ _ _ ho (init_kept _ _) _ _ (hret _ (.inl rfl)))
        · rename_i e h1' ho
          obtain ⟨trunc, hret⟩ := retX_ret hs hq
          exact acallD hp h1 h3 h2 h4 h5 x.keep x.tk trunc hl (codeDX_sound hc hC k _ _ _ _ _ _ _ ho (init_kept _ _) _ _ (hret _ (.inr rfl)))
        · rename_i v e h1' ho
          simp only [Option.some.injEq, Prod.mk.injEq] at hs
          obtain ⟨rfl, rfl⟩ := hs
          exact acallD hp h1 h3 h2 h4 h5 x.keep x.tk false hl (codeDX_sound hc hC k _ _ _ _ _ _ _ ho (init_kept _ _) _ _ (by simp only [retQ, Bool.false_eq_true, if_false]; exact hq))
        · rename_i j cap ex e h1' ho
          split at hs
          · rename_i pv hpv
            split at hs
            · rename_i h2' hcl
              obtain ⟨trunc, hret⟩ := retX_ret hs hq
              refine acallD hp h1 h3 h2 h4 h5 x.keep x.tk trunc hl (codeDX_sound hc hC k _ _ _ _ _ _ _ ho (init_kept _ _) _ _ ?_)
              have := closeX_sound hc hC ht hcl (K := retQ ty x.results trunc h Q .ret e) (hret _ (.inr rfl))
              cases ex <;> simp only [pvX, Option.some.injEq, reduceCtorEq] at hpv
              all_goals (subst hpv; exact this)
            · cases hs
          · cases hs
        · cases hs
end
end
end Go.Proofs.YtiigffdmjdooeaaGreatDoor.Pv
