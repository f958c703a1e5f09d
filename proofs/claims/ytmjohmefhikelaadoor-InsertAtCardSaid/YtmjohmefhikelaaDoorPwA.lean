/- The pure evaluator, part A: values, environments, and what each operation comes to. Generic in the program. -/
import Derived.Tactics
import Derived.Calls
set_option linter.unusedVariables false
set_option linter.unusedSimpArgs false
namespace Go.Proofs.YtmjohmefhikelaaDoor.Pv
open Go

/-- Pure values. -/
inductive V where
  | bool (b : Bool)
  | int (k : IntKind) (n : Int)
  | flt (k : FloatKind) (b : Nat)
  | cpx (k : FloatKind) (re im : Nat)
  | str (s : List UInt8)
  | sl (sz : Nat) (xs : List V)
  | cap (sz : Nat) (xs : List V)
  | slen (n : Nat)
  | own (e sz : Nat) (xs : List V)
  | pri (o : Option Value) (e sz : Nat) (xs : List V)
  | raw (u : Value)
  | nils (e sz : Nat)
  | msl (id off len sz : Nat)
  | ref (id off : Nat)
  | imm (cs : List V)
  | nilp
  | map (id : Nat)
  | nilm
  | func (fn : Fn) (first cap : List V)
  | nilf
  | iface (t : TypeId) (v : V)
  | nili
  | agg (cs : List V)
  | tup (vs : List V)
  | top
  deriving Inhabited

def V.demote : V → V
  | .own _ s xs => .sl s xs
  | .cap s xs => .sl s xs
  | .pri _ _ _ _ => .top
  | v => v
/-- What is left where a row is moved away. -/
def V.left : V → V
  | .pri _ _ _ xs => .slen xs.length
  | v => v.demote
/-- A slice of which the length alone is wanted. -/
def V.lenOf : V → V
  | .pri _ _ _ xs => .slen xs.length
  | v => v.demote
def V.toOwn : V → V
  | .nils e s => .own e s []
  | v => v
def V.asOwn : V → V
  | .nils e s => .own e s []
  | v => v
def V.cells : V → List V
  | .agg cs => cs
  | v => [v]
def V.plain : V → Bool
  | .agg _ | .tup _ | .top | .raw _ => false
  | _ => true

abbrev Env := List (Nat × V)
def Env.get : Env → Nat → V
  | [], _ => .top
  | (j, v) :: r, i => if i = j then v else Env.get r i
def Env.put : Env → Nat → V → Env
  | [], i, v => [(i, v)]
  | (j, u) :: r, i, v => if i = j then (j, v) :: r else (j, u) :: Env.put r i v
def Env.keep : Env → List Nat → Env
  | [], _ => []
  | (j, u) :: r, ks => if ks.contains j then (j, u) :: Env.keep r ks else Env.keep r ks

/-- Objects: boxed variables (rows of cells), maps, iterators over strings. -/
inductive AObj where
  | cells (t : Nat) (cs : List V)
  | map (es : List (V × V))
  | siter (s : List UInt8) (pos : Nat)
  | miter (m n : Nat) (left : List (List UInt8)) (last : Option (List UInt8))
  deriving Inhabited
abbrev H := List AObj

inductive K where
  | int (k : IntKind) | bool | str | flt (k : FloatKind) | cpx (k : FloatKind)
  | slice (e : Nat) | ptr (e : Nat) | arr (n e : Nat) | map (k e : Nat) | struct (fs : List (Nat × Nat))
  | func | iface | other
  deriving Inhabited
structure Ty where
  k : K
  size : Nat
  bytes : Nat
  zero : List V
  deriving Inhabited
def Ty.agg (t : Ty) : Bool := match t.k with | .struct _ | .arr _ _ => true | _ => false
/-- A value of a type, out of its cells. -/
def Ty.val (t : Ty) (cs : List V) : V := if t.agg then .agg cs else cs.headD .top

/-- What an iterator does ahead of a round, and what it hands it. -/
abbrev Step := List (Nat × AObj) × List V
inductive Out where
  | ret (v : V)
  | panic (v : V)
  | steps (own : List Nat) (ss : List Step)
/-- Numbers from here on stand for iterators (a function's number and this): told by what they yield. -/
abbrev iterBase : Nat := 1000000
inductive Ex where
  | normal | exit (id : Nat) | goto (l : Nat) | ret | panic (v : V)

abbrev CallP := FuncId → List V → H → (Out → H → Prop) → Prop

/-- What an operation comes to: a value (under a condition), a call, a panic; or nothing is said of it. -/
inductive Res where
  | val (p : Prop) (v : V) (env : Env) (h : H)
  | call (f : FuncId) (args : List V)
  | pan (v : V)
  | each (f : Value → Res)
  | bad
inductive R1 where
  | ok (p : Prop) (v : V)
  | bad

def R1.res (r : R1) (env : Env) (h : H) : Res :=
  match r with
  | .ok p v => .val p v env h
  | .bad => .bad

section
variable (ty : Nat → Ty)

def nilSlice (t : Nat) : V := match (ty t).k with | .slice e => .nils e (ty e).size | _ => .top

/-- A cell of a constant, at the place of a zero's cell. -/
def constC (z : V) : Value → V
  | .bool b => .bool b
  | .int k n => .int k n
  | .float k b => .flt k b
  | .string s => .str s.data.toList
  | .pointer none => .nilp
  | .slice none 0 0 => (match z with | .nils e s => .nils e s | _ => .top)
  | .map none => .nilm
  | .nilFunc => .nilf
  | .nilIface => .nili
  | _ => .top
def constV (t : Nat) : Value → V
  | .agg ca => if (ty t).zero.length = ca.size then .agg (List.zipWith constC (ty t).zero ca.toList) else .top
  | .bool b => .bool b
  | .int k n => .int k n
  | .float k b => .flt k b
  | .complex k a b => .cpx k a b
  | .string s => .str s.data.toList
  | .pointer none => .nilp
  | .slice none 0 0 => nilSlice ty t
  | .map none => .nilm
  | .nilFunc => .nilf
  | .nilIface => .nili
  | _ => .top

/-- An operand, as a copy. -/
def ev (env : Env) (t : Nat) : Operand → V
  | .tmp i => (env.get i).demote
  | .const v => constV ty t v
  | .func f => .func (.func f) [] []
  | .global _ => .top

def bitsV (op : BinOp) (k : IntKind) (x y : Int) : Int :=
  match op with
  | .and => k.wrap ((BitVec.ofInt k.bits x &&& BitVec.ofInt k.bits y).toNat : Int)
  | .or => k.wrap ((BitVec.ofInt k.bits x ||| BitVec.ofInt k.bits y).toNat : Int)
  | .xor => k.wrap ((BitVec.ofInt k.bits x ^^^ BitVec.ofInt k.bits y).toNat : Int)
  | _ => k.wrap ((BitVec.ofInt k.bits x &&& ~~~ BitVec.ofInt k.bits y).toNat : Int)

def intOp (op : BinOp) (k : IntKind) (a b : Int) : R1 :=
  match op with
  | .add => .ok True (.int k (k.wrap (a + b)))
  | .sub => .ok True (.int k (k.wrap (a - b)))
  | .mul => .ok True (.int k (k.wrap (a * b)))
  | .quo => .ok (b ≠ 0) (.int k (k.wrap (a.tdiv b)))
  | .rem => .ok (b ≠ 0) (.int k (a.tmod b))
  | .and => .ok True (.int k (bitsV .and k a b))
  | .or => .ok True (.int k (bitsV .or k a b))
  | .xor => .ok True (.int k (bitsV .xor k a b))
  | .andNot => .ok True (.int k (bitsV .andNot k a b))
  | .eql => .ok True (.bool (decide (a = b)))
  | .neq => .ok True (.bool (!decide (a = b)))
  | .lss => .ok True (.bool (decide (a < b)))
  | .leq => .ok True (.bool (decide (a ≤ b)))
  | .gtr => .ok True (.bool (decide (b < a)))
  | .geq => .ok True (.bool (decide (b ≤ a)))
  | _ => .bad

def shiftOp (op : BinOp) (k : IntKind) (a b : Int) : R1 :=
  match op with
  | .shl => .ok (0 ≤ b) (.int k (k.wrap (a * 2 ^ (min b.toNat k.bits))))
  | .shr => .ok (0 ≤ b) (.int k (a.fdiv (2 ^ (min b.toNat k.bits))))
  | _ => .bad

def strOp (op : BinOp) (a b : List UInt8) : R1 :=
  match op with
  | .add => .ok (a.length + b.length ≤ 4611686018427387904) (.str (a ++ b))
  | .eql => .ok True (.bool (decide (a = b)))
  | .neq => .ok True (.bool (!decide (a = b)))
  | .lss => .ok True (.bool (Op.bytesLess a b))
  | .leq => .ok True (.bool (Op.bytesLess a b || decide (a = b)))
  | .gtr => .ok True (.bool !(Op.bytesLess a b || decide (a = b)))
  | .geq => .ok True (.bool !(Op.bytesLess a b))
  | _ => .bad

def isShift : BinOp → Bool
  | .shl | .shr => true
  | _ => false

def fltOp (op : BinOp) (k : FloatKind) (a b : Nat) : R1 :=
  match op with
  | .eql => .ok True (.bool (k.format.order a b == some .eq))
  | .neq => .ok True (.bool (k.format.order a b != some .eq))
  | .lss => .ok True (.bool (k.format.order a b == some .lt))
  | .leq => .ok True (.bool (k.format.order a b == some .lt || k.format.order a b == some .eq))
  | .gtr => .ok True (.bool (k.format.order a b == some .gt))
  | .geq => .ok True (.bool (k.format.order a b == some .gt || k.format.order a b == some .eq))
  | _ => .bad
def binOp (op : BinOp) (x y : V) : R1 :=
  match x, y with
  | .int k a, .int k' b => if isShift op then shiftOp op k a b else if k = k' then intOp op k a b else .bad
  | .str a, .str b => strOp op a b
  | .flt k a, .flt k' b => if k = k' then fltOp op k a b else .bad
  | _, _ => .bad

/-- .. at a type. 'c': one of the two is written as nil. -/
def binOpT (op : BinOp) (t : Nat) (c : Bool) (x y : V) : R1 :=
  match op, (ty t).k, x, y with
  | .eql, .bool, .bool a, .bool b => .ok True (.bool (a == b))
  | .neq, .bool, .bool a, .bool b => .ok True (.bool (!(a == b)))
  | .eql, .iface, .iface _ _, .nili => .ok True (.bool false)
  | .neq, .iface, .iface _ _, .nili => .ok True (.bool true)
  | .eql, .iface, .nili, .nili => if c then .ok True (.bool true) else .bad
  | .neq, .iface, .nili, .nili => if c then .ok True (.bool false) else .bad
  | .eql, .ptr _, .nilp, .nilp => .ok True (.bool true)
  | .neq, .ptr _, .nilp, .nilp => .ok True (.bool false)
  | .eql, .ptr _, .ref _ _, .nilp => .ok True (.bool false)
  | .neq, .ptr _, .ref _ _, .nilp => .ok True (.bool true)
  | .eql, .ptr _, .imm _, .nilp => .ok True (.bool false)
  | .neq, .ptr _, .imm _, .nilp => .ok True (.bool true)
  | .eql, .slice _, .nils _ _, .nils _ _ => if c then .ok True (.bool true) else .bad
  | .neq, .slice _, .nils _ _, .nils _ _ => if c then .ok True (.bool false) else .bad
  | _, _, _, _ => binOp op x y
def isC : Operand → Bool
  | .const _ => true
  | _ => false

def unOp (op : UnOp) (x : V) : R1 :=
  match op, x with
  | .not, .bool b => .ok True (.bool (!b))
  | .neg, .int k n => .ok True (.int k (k.wrap (0 - n)))
  | .xor, .int k n => .ok True (.int k (bitsV .xor k (if k.signed then -1 else k.max) n))
  | _, _ => .bad

/-- Bytes as elements, and back. -/
def byteV (b : UInt8) : V := .int .u8 (b.toNat : Int)
def V.toByte : V → Option UInt8
  | .int .u8 n => if 0 ≤ n ∧ n < 256 then some (UInt8.ofNat n.toNat) else none
  | _ => none
def toBytes : List V → Option (List UInt8)
  | [] => some []
  | v :: r => match v.toByte, toBytes r with | some b, some l => some (b :: l) | _, _ => none
def strOf (p : Prop) (o : Option (List UInt8)) : R1 := match o with | some l => .ok p (.str l) | none => .bad

def K.isU8 : K → Bool
  | .int .u8 => true
  | _ => false
def AObj.row : AObj → Option (List V)
  | .cells _ cs => some cs
  | _ => none
/-- The type of an object's cells. -/
def H.ety (h : H) (id : Nat) : Nat := match h[id]? with | some (.cells t _) => t | _ => 0
def H.row (h : H) (id : Nat) : Option (List V) := (h[id]?).bind AObj.row

/-- A number out of a float, where it is one of the kind. -/
def toInt (k : IntKind) (x : Option Int) : R1 := .ok (Option.isSome x = true ∧ k.min ≤ x.getD 0 ∧ x.getD 0 ≤ k.max) (.int k (x.getD 0))
def convert (src dst : Nat) (x : V) (h : H) : R1 :=
  match (ty src).k, (ty dst).k, x with
  | .int _, .int k, .int _ n => .ok True (.int k (k.wrap n))
  | .str, .str, .str s => .ok True (.str s)
  | .int _, .str, .int _ n => .ok True (.str (Utf8.encode n).data.toList)
  | .slice e, .str, .sl 1 xs => if (ty e).k.isU8 then strOf True (toBytes xs) else .bad
  | .slice e, .str, .nils _ _ => if (ty e).k.isU8 then .ok True (.str []) else .bad
  | .slice e, .str, .msl id off len 1 =>
    if (ty e).k.isU8 then (match h.row id with | some cs => strOf (off + len ≤ cs.length) (toBytes ((cs.drop off).take len)) | none => .bad) else .bad
  | .str, .slice e, .str s => if (ty e).k.isU8 then .ok True (.sl 1 (s.map byteV)) else .bad
  | .int _, .flt k, .int _ n => .ok True (.flt k (k.nearest n))
  | .flt _, .int k, .flt s b => toInt k ((s.decode b).toInt .zero)
  | _, _, _ => .bad

def splice (cs : List V) (off : Nat) (new : List V) : List V := cs.take off ++ (new ++ cs.drop (off + new.length))

/-- Fill parts into cells; each part lies whole within. -/
def fill (place : Nat → Option (Nat × Nat × Nat)) (env : Env) : List (Nat × Operand) → Prop → List V → Option (Prop × List V)
  | [], p, cs => some (p, cs)
  | (i, x) :: rest, p, cs =>
    match place i with
    | none => none
    | some (off, size, t) =>
      fill place env rest (p ∧ (ev ty env t x).cells.length = size ∧ 0 < size ∧ (ev ty env t x).cells.all V.plain = true ∧ off + size ≤ cs.length) (splice cs off (ev ty env t x).cells)

/-- A copy of a cell's value; of a row that nothing covers, the bare value alone. -/
def loadN (c : V) (p : Prop) (env : Env) (h : H) (k : V → H) : Res :=
  match c with
  | .pri _ e sz xs => .each fun u => .val p (.raw u) env (k (.pri (some u) e sz xs))
  | c => .val p c.demote env h
/-- Loads and stores through references. -/
def load (t : Nat) (tk ln : Bool) (p : V) (env : Env) (h : H) : Res :=
  match p with
  | .imm cs => .val ((ty t).size ≤ cs.length ∧ 0 < (ty t).size) ((ty t).val (cs.take (ty t).size)) env h
  | .ref id off =>
    match h.row id with
    | some cs =>
      if (ty t).agg then .val (off + (ty t).size ≤ cs.length ∧ 0 < (ty t).size) (.agg (((cs.drop off).take (ty t).size).map V.demote)) env h
      else if tk then .val (off < cs.length ∧ (ty t).size = 1) (cs.getD off .top) env (h.set id (.cells (h.ety id) (cs.set off (cs.getD off .top).left)))
      else if ln then .val (off < cs.length ∧ (ty t).size = 1) (cs.getD off .top).lenOf env h
      else loadN (cs.getD off .top) (off < cs.length ∧ (ty t).size = 1) env h fun c => h.set id (.cells (h.ety id) (cs.set off c))
    | none => .bad
  | _ => .bad

def store (t : Nat) (p x : V) (env : Env) (h : H) : Res :=
  match p with
  | .ref id off =>
    match h.row id with
    | some cs =>
      .val (x.cells.length = (ty t).size ∧ 0 < (ty t).size ∧ off + (ty t).size ≤ cs.length ∧ x.cells.all V.plain = true) .top env (h.set id (.cells (h.ety id) (splice cs off (x.cells.map V.toOwn))))
    | none => .bad
  | _ => .bad

/-- The greatest length that an append may come to, in bytes. -/
def room (n bytes : Nat) : Prop := n * bytes ≤ 140737488355328 ∧ n ≤ 4611686018427387904

def append (t : Nat) (s x : V) : R1 :=
  match (ty t).k, s, x with
  | .slice e, .own e' sz xs, .sl sz' ys => .ok ((e' = e ∧ sz = (ty e).size) ∧ (sz' = (ty e).size ∧ 0 < sz') ∧ room (xs.length + ys.length) (ty e).bytes) (.own e' sz (xs ++ ys))
  | .slice e, .cap sz xs, .sl sz' ys => .ok (sz = (ty e).size ∧ (sz' = (ty e).size ∧ 0 < sz') ∧ ys ≠ [] ∧ room (xs.length + ys.length) (ty e).bytes) (.own e sz (xs ++ ys))
  | .slice e, .own e' sz xs, .nils _ _ => .ok (e' = e ∧ (sz = (ty e).size ∧ 0 < (ty e).size) ∧ room (xs.length + 0) (ty e).bytes) (.own e' sz xs)
  | .slice e, .pri _ e' sz xs, .sl sz' ys => .ok ((e' = e ∧ sz = (ty e).size) ∧ (sz' = (ty e).size ∧ 0 < sz') ∧ room (xs.length + ys.length) (ty e).bytes) (.pri none e' sz (xs ++ ys))
  | .slice e, .own e' sz xs, .str s => .ok ((e' = e ∧ sz = (ty e).size) ∧ ((ty e).size = 1 ∧ (ty e).bytes = 1) ∧ room (xs.length + s.length) 1) (.own e' sz (xs ++ s.map byteV))
  | _, _, _ => .bad
/-- A text may be appended to bytes. -/
def appT (t t' : Nat) (x : V) : Bool := match x with | .str _ => (match (ty t').k with | .str => true | _ => false) | _ => t == t'

/-- s[lo:hi]: the bounds. -/
def hiB (x : Option V) (most : Nat) : Option (Prop × Nat) :=
  match x with
  | none => some (True, most)
  | some (.int _ i) => some ((0 ≤ i ∧ i ≤ most), i.toNat)
  | _ => none
def loB (x : Option V) (most : Nat) : Option (Prop × Nat) :=
  match x with
  | none => some (True, 0)
  | some (.int _ i) => some ((0 ≤ i ∧ i ≤ most), i.toNat)
  | _ => none
def bounds (lo hi : Option V) (len : Nat) : Option (Prop × Nat × Nat) :=
  match hiB hi len with
  | some (p, h) => (match loB lo h with | some (q, l) => some (p ∧ q, l, h) | none => none)
  | none => none
def withB (b : Option (Prop × Nat × Nat)) (f : Nat → Nat → V) (q : Prop) : R1 :=
  match b with
  | some (p, l, h) => .ok (p ∧ q) (f l h)
  | none => .bad

def slice (t : Nat) (x : V) (lo hi : Option V) : R1 :=
  match (ty t).k, x with
  | .str, .str s => withB (bounds lo hi s.length) (fun l h => .str ((s.take h).drop l)) True
  | .slice e, .sl sz xs => withB (bounds lo hi xs.length) (fun l h => .sl sz ((xs.take h).drop l)) (sz = (ty e).size ∧ 0 < sz)
  | .slice e', .nils e sz => withB (bounds lo hi 0) (fun _ _ => .nils e sz) (0 < (ty e').size)
  | .slice e, .msl id off len sz => withB (bounds lo hi len) (fun l h => .msl id (off + l * sz) (h - l) sz) (sz = (ty e).size ∧ 0 < sz)
  | .arr n e, .ref id off => withB (bounds lo hi n) (fun l h => .msl id (off + l * (ty e).size) (h - l) (ty e).size) (0 < (ty e).size)
  | _, _ => .bad

/-- What is moved and cut: a row that nothing covers, at its end. -/
def cut (t : Nat) (i : Nat) (v : V) (lo hi : Option V) (env : Env) (h : H) : Res :=
  match (ty t).k, v, lo with
  | .slice e, .pri _ e' sz xs, none =>
    (match hiB hi xs.length with
    | some (p, k) => .val (p ∧ e' = e ∧ sz = (ty e).size ∧ 0 < sz) (.pri none e' sz (xs.take k)) (env.put i .top) h
    | none => .bad)
  | .slice e, .own e' sz [], none =>
    (match hiB hi 0 with
    | some (p, k) => .val (p ∧ e' = e ∧ sz = (ty e).size ∧ 0 < sz) (.own e' sz []) (env.put i .top) h
    | none => .bad)
  | .slice e, .own e' sz xs, some (.int _ l) =>
    (match hi with
    | none => .val ((0 ≤ l ∧ l ≤ xs.length) ∧ e' = e ∧ sz = (ty e).size ∧ 0 < sz) (.own e' sz (xs.drop l.toNat)) (env.put i .top) h
    | some _ => .bad)
  | _, _, _ => .bad
/-- s[lo:hi:hi]: nothing may be appended in its place. -/
def slice3 (t : Nat) (x : V) (lo hi : Option V) (m : V) : R1 :=
  match (ty t).k, x, hi, m with
  | .slice e, .sl sz xs, some (.int _ a), .int _ b => if a = b then withB (bounds lo (some (.int .i64 a)) xs.length) (fun l h => .cap sz ((xs.take h).drop l)) (sz = (ty e).size ∧ 0 < sz) else .bad
  | _, _, _, _ => .bad
/-- Is a list nil? Of an empty one it is not known. -/
def nilB (b : Bool) (xs : List V) (u : Value) : Bool := if xs.isEmpty then (match u with | .bool c => c | _ => false) else b
def sliceNil (op : BinOp) (t : Nat) (c : Bool) (x y : V) (env : Env) (h : H) : Option Res :=
  match op, (ty t).k, x, y with
  | .eql, .slice _, .sl _ xs, .nils _ _ => if c = true then some (.each fun u => .val True (.bool (nilB false xs u)) env h) else none
  | .neq, .slice _, .sl _ xs, .nils _ _ => if c = true then some (.each fun u => .val True (.bool (nilB true xs u)) env h) else none
  | _, _, _, _ => none

def indexAddr (t : Nat) (x i : V) : R1 :=
  match (ty t).k, x, i with
  | .slice e, .sl sz xs, .int _ n => .ok ((0 ≤ n ∧ n < xs.length) ∧ sz = (ty e).size) (.imm (xs.getD n.toNat .top).cells)
  | .slice e, .msl id off len sz, .int _ n => .ok ((0 ≤ n ∧ n < len) ∧ sz = (ty e).size ∧ 0 < sz) (.ref id (off + n.toNat * sz))
  | .arr m e, .ref id off, .int _ n => .ok ((0 ≤ n ∧ n < m) ∧ 0 < (ty e).size) (.ref id (off + n.toNat * (ty e).size))
  | _, _, _ => .bad

def index (t : Nat) (x i : V) : R1 :=
  match (ty t).k, x, i with
  | .str, .str s, .int _ n => .ok (0 ≤ n ∧ n < s.length) (byteV (s.getD n.toNat 0))
  | .arr m e, .agg cs, .int _ n => .ok ((0 ≤ n ∧ n < m) ∧ n.toNat * (ty e).size + (ty e).size ≤ cs.length ∧ 0 < (ty e).size) ((ty e).val ((cs.drop (n.toNat * (ty e).size)).take (ty e).size))
  | _, _, _ => .bad

def lenV (t : Nat) (x : V) (h : H) : R1 :=
  match (ty t).k, x with
  | .str, .str s => .ok True (.int .i64 s.length)
  | .slice _, .sl _ xs => .ok True (.int .i64 xs.length)
  | .slice _, .nils _ _ => .ok True (.int .i64 0)
  | .slice _, .slen n => .ok True (.int .i64 n)
  | .slice _, .msl _ _ len _ => .ok True (.int .i64 len)
  | .arr n _, _ => .ok True (.int .i64 n)
  | .map _ _, .nilm => .ok True (.int .i64 0)
  | .map _ _, .map id => (match h[id]? with | some (.map es) => .ok True (.int .i64 es.length) | _ => .bad)
  | _, _ => .bad

/-- A struct's field: offset and type. -/
def fieldOf (s f : Nat) : Option (Nat × Nat) :=
  match (ty s).k with
  | .struct fs => fs[f]?
  | _ => none

/-- Where a place of a built value lies: offset, size, type. -/
def placeOf (t : Nat) (i : Nat) : Option (Nat × Nat × Nat) :=
  match (ty t).k with
  | .struct fs => (fs[i]?).map fun (off, u) => (off, (ty u).size, u)
  | .arr _ e | .slice e => some (i * (ty e).size, (ty e).size, e)
  | _ => none

def buildOk (t : Nat) : Prop :=
  match (ty t).k with
  | .struct _ => True
  | .arr _ e => 0 < (ty e).size
  | _ => False

def repl (z : List V) : Nat → List V
  | 0 => []
  | n + 1 => z ++ repl z n

/-- Cells as values of a type, one behind the other. -/
def chunks (t : Ty) : Nat → List V → List V
  | 0, _ => []
  | n + 1, cs => t.val (cs.take t.size) :: chunks t n (cs.drop t.size)

def minV (x y : V) : R1 := match x, y with | .int k a, .int _ b => .ok True (.int k (if b < a then b else a)) | _, _ => .bad
def maxV (x y : V) : R1 := match x, y with | .int k a, .int _ b => .ok True (.int k (if a < b then b else a)) | _, _ => .bad

def cpxV (x y : V) : R1 := match x, y with | .flt k a, .flt k' b => if k = k' then .ok True (.cpx k a b) else .bad | _, _ => .bad
def realV (x : V) : R1 := match x with | .cpx k a _ => .ok True (.flt k a) | _ => .bad
def imagV (x : V) : R1 := match x with | .cpx k _ b => .ok True (.flt k b) | _ => .bad
def builtin (b : Builtin) (argTypes : List Nat) (args : List Operand) (env : Env) (h : H) : Res :=
  match b, argTypes, args with
  | .len, [t], [x] => (lenV ty t (ev ty env t x) h).res env h
  | .append, [t, t'], [.tmp s, x] => if appT ty t t' (ev ty env t x) = true then (append ty t (env.get s).asOwn (ev ty env t x)).res (env.put s (env.get s).demote) h else .bad
  | .append, [t, t'], [.const c, x] => if appT ty t t' (ev ty env t x) = true then (append ty t (constV ty t c).asOwn (ev ty env t x)).res env h else .bad
  | .min, [t, t'], [x, y] => (minV (ev ty env t x) (ev ty env t' y)).res env h
  | .max, [t, t'], [x, y] => (maxV (ev ty env t x) (ev ty env t' y)).res env h
  | .complex, [t, t'], [x, y] => (cpxV (ev ty env t x) (ev ty env t' y)).res env h
  | .real, [t], [x] => (realV (ev ty env t x)).res env h
  | .imag, [t], [x] => (imagV (ev ty env t x)).res env h
  | _, _, _ => .bad

/-- The types of rows of which it is not known how many elements they have room for. -/
def looseT : List Nat := []
/-- An append to nothing, told as an object of the heap: its elements may be written one by one. -/
def rowApp (b : Builtin) (argTypes : List Nat) (args : List Operand) (env : Env) (h : H) : Res :=
  match b, argTypes, args with
  | .append, [t, t'], [.tmp s, x] =>
    (match (ty t).k, env.get s, ev ty env t x with
    | .slice e, .nils _ sz, .sl sz' ys => if t = t' ∧ looseT.contains e = true then .val ((sz' = (ty e).size ∧ 0 < sz') ∧ ys ≠ [] ∧ (ys.flatMap V.cells).all V.plain = true ∧ room ys.length (ty e).bytes) (.msl h.length 0 ys.length sz') env (h ++ [.cells e ((ys.flatMap V.cells).map V.toOwn)]) else .bad
    | _, _, _ => .bad)
  | _, _, _ => .bad
theorem rowApp_spec {b : Builtin} {ts : List Nat} {xs : List Operand} {env : Env} {h : H} {r : Res} (he : rowApp ty b ts xs env h = r) : r = .bad ∨ ∃ p v o, r = .val p v env (h ++ [o]) := by
  unfold rowApp at he
  repeat' split at he
  all_goals subst he
  all_goals first | exact .inl rfl | exact .inr ⟨_, _, _, rfl⟩
theorem rowApp_call {b : Builtin} {ts : List Nat} {xs : List Operand} {env : Env} {h : H} {f : FuncId} {args : List V} (he : rowApp ty b ts xs env h = .call f args) : False := by
  rcases rowApp_spec ty he with e | ⟨_, _, _, e⟩ <;> cases e
theorem rowApp_pan {b : Builtin} {ts : List Nat} {xs : List Operand} {env : Env} {h : H} {v : V} (he : rowApp ty b ts xs env h = .pan v) : False := by
  rcases rowApp_spec ty he with e | ⟨_, _, _, e⟩ <;> cases e
theorem rowApp_each {b : Builtin} {ts : List Nat} {xs : List Operand} {env : Env} {h : H} {f : Value → Res} (he : rowApp ty b ts xs env h = .each f) : False := by
  rcases rowApp_spec ty he with e | ⟨_, _, _, e⟩ <;> cases e
theorem rowApp_heap {b : Builtin} {ts : List Nat} {xs : List Operand} {env e' : Env} {h : H} {p : Prop} {v : V} (he : rowApp ty b ts xs env h = .val p v e' h) : False := by
  rcases rowApp_spec ty he with e | ⟨_, _, _, e⟩
  · cases e
  · simp only [Res.val.injEq] at e
    have := congrArg List.length e.2.2.2
    simp at this
def tkB (tk : List Nat) : Option Nat → Bool
  | some d => tk.contains d
  | none => false
def lnB (tk : List Nat) : Option Nat → Bool
  | some d => tk.contains (d + 1000000)
  | none => false
/-- The appends told as objects. -/
def rwB (tk : List Nat) : Option Nat → Bool
  | some d => tk.contains (d + 3000000)
  | none => false
def neD (i : Nat) : Option Nat → Bool
  | some d => i != d
  | none => true

def pickV (c a b : V) : R1 := match c with | .bool c => .ok True (if c = true then a else b) | _ => .bad

def textKey : V → Option (List UInt8)
  | .str s => some s
  | _ => none
/-- Where a key stands. -/
def mapIx (s : List UInt8) : List (V × V) → Option Nat
  | [] => none
  | (k, _) :: r => if textKey k = some s then some 0 else (mapIx s r).map (· + 1)
def mapGet (s : List UInt8) (es : List (V × V)) : Option V := (mapIx s es).bind fun i => es[i]?.map (·.2)
def mapSet (s : List UInt8) (v : V) (es : List (V × V)) : List (V × V) :=
  match mapIx s es with
  | some i => es.set i (.str s, v)
  | none => es ++ [(.str s, v)]
def textKeys (es : List (V × V)) : Bool := es.all fun e => (textKey e.1).isSome

/-- What a lookup yields. -/
def V.slz1 : V → V
  | .nils _ s => .sl s []
  | v => v
/-- A nil list, told as an empty one. -/
def V.slz : V → V
  | .agg cs => .agg (cs.map V.slz1)
  | v => v.slz1
def lookV (c : Bool) (t : Ty) (o : Option V) : V := if c = true then .tup [o.getD (t.val t.zero).slz, .bool o.isSome] else o.getD (t.val t.zero).slz
def lookup (t : Nat) (c : Bool) (m k : V) (h : H) : R1 :=
  match (ty t).k, m, k with
  | .map kt et, .map id, .str s => (match h[id]? with
    | some (.map es) => .ok ((ty kt).k = .str ∧ textKeys es = true ∧ 0 < (ty et).size) (lookV c (ty et) (mapGet s es))
    | _ => .bad)
  | .map kt et, .nilm, .str s => .ok ((ty kt).k = .str ∧ 0 < (ty et).size) (lookV c (ty et) none)
  | _, _, _ => .bad

/-- A map's elements' type. -/
def elemOf : K → Nat
  | .map _ e => e
  | _ => 0
def update (t : Nat) (m k v : V) (env : Env) (h : H) : Res :=
  match (ty t).k, m, k with
  | .map kt et, .map id, .str s => (match h[id]? with
    | some (.map es) => .val ((ty kt).k = .str ∧ textKeys es = true) .top env (h.set id (.map (mapSet s v es)))
    | _ => .bad)
  | _, _, _ => .bad
theorem update_call {t : Nat} {m k v : V} {env : Env} {h : H} {f : FuncId} {args : List V} (he : update ty t m k v env h = .call f args) : False := by
  unfold update at he; repeat' split at he
  all_goals cases he
theorem update_each {t : Nat} {m k v : V} {env : Env} {h : H} {f : Value → Res} (he : update ty t m k v env h = .each f) : False := by
  unfold update at he; repeat' split at he
  all_goals cases he
theorem update_pan {t : Nat} {m k v : V} {env : Env} {h : H} {u : V} (he : update ty t m k v env h = .pan u) : False := by
  unfold update at he; repeat' split at he
  all_goals cases he
def sliceOp (moved : Bool) (t : Nat) (x : Operand) (lo hi : Option Operand) (env : Env) (h : H) : Res :=
  match moved, x with
  | true, .tmp i => cut ty t i (env.get i) (lo.map (ev ty env 0)) (hi.map (ev ty env 0)) env h
  | _, x => (slice ty t (ev ty env t x) (lo.map (ev ty env 0)) (hi.map (ev ty env 0))).res env h
theorem cut_val {t i : Nat} {v : V} {lo hi : Option V} {env : Env} {h : H} (r : Res) (he : cut ty t i v lo hi env h = r) : (∃ p v e, r = .val p v e h) ∨ r = .bad := by
  subst he
  unfold cut
  split
  · split
    · exact .inl ⟨_, _, _, rfl⟩
    · exact .inr rfl
  · split
    · exact .inl ⟨_, _, _, rfl⟩
    · exact .inr rfl
  · split
    · exact .inl ⟨_, _, _, rfl⟩
    · exact .inr rfl
  · exact .inr rfl
theorem sliceOp_val {m : Bool} {t : Nat} {x : Operand} {lo hi : Option Operand} {env : Env} {h : H} (r : Res) (he : sliceOp ty m t x lo hi env h = r) : (∃ p v e, r = .val p v e h) ∨ r = .bad := by
  unfold sliceOp at he
  split at he
  · exact cut_val ty r he
  · subst he
    generalize slice ty t _ _ _ = q
    cases q with
    | ok p v => exact .inl ⟨_, _, _, rfl⟩
    | bad => exact .inr rfl
theorem sliceOp_call {m : Bool} {t : Nat} {x : Operand} {lo hi : Option Operand} {env : Env} {h : H} {f : FuncId} {args : List V} (he : sliceOp ty m t x lo hi env h = .call f args) : False := by
  rcases sliceOp_val ty _ he with ⟨_, _, _, e⟩ | e <;> cases e
theorem sliceOp_pan {m : Bool} {t : Nat} {x : Operand} {lo hi : Option Operand} {env : Env} {h : H} {v : V} (he : sliceOp ty m t x lo hi env h = .pan v) : False := by
  rcases sliceOp_val ty _ he with ⟨_, _, _, e⟩ | e <;> cases e
theorem sliceOp_each {m : Bool} {t : Nat} {x : Operand} {lo hi : Option Operand} {env : Env} {h : H} {f : Value → Res} (he : sliceOp ty m t x lo hi env h = .each f) : False := by
  rcases sliceOp_val ty _ he with ⟨_, _, _, e⟩ | e <;> cases e
/-- A text's next sign: what is said of it, where the one behind it stands. -/
def nextT (s : List UInt8) (pos : Nat) : V := if pos < s.length then .tup [.bool true, .int .i64 pos, .int .i32 (Utf8.decode ⟨s.toArray⟩ pos).1] else .tup [.bool false]
def nextP (s : List UInt8) (pos : Nat) : Nat := if pos < s.length then pos + (Utf8.decode ⟨s.toArray⟩ pos).2 else pos
def keysOf : List (V × V) → Option (List (List UInt8))
  | [] => some []
  | (.str s, _) :: r => (keysOf r).map (s :: ·)
  | _ => none
def rangeOp (t : Nat) (x : V) (env : Env) (h : H) : Res :=
  match (ty t).k, x with
  | .str, .str s => .val True (.ref h.length 0) env (h ++ [.siter s 0])
  | .map _ _, .map id => (match h[id]? with
    | some (.map es) => (match keysOf es with
      | some ks => .val True (.ref h.length 0) env (h ++ [.miter id es.length ks none])
      | none => .bad)
    | _ => .bad)
  | _, _ => .bad
/-- Which of them comes next: whatever the machine draws. -/
def pickN (n : Nat) (u : Value) : Nat := (match u with | .int _ m => m.toNat | _ => 0) % n
def nextM (x : V) (env : Env) (h : H) : Res :=
  match x with
  | .ref id 0 =>
    (match h[id]? with
    | some (.miter m n left _) => (match h[m]? with
      | some (.map es) => if es.length = n then (if left = [] then .val True (.tup [.bool false]) env h
        else .each fun u => .val True (.tup [.bool true, .str (left.getD (pickN left.length u) []), .top]) env (h.set id (.miter m n (left.eraseIdx (pickN left.length u)) (some (left.getD (pickN left.length u) []))))) else .bad
      | _ => .bad)
    | _ => .bad)
  | _ => .bad
def entryOp (x : V) (env : Env) (h : H) : Res :=
  match x with
  | .ref id 0 =>
    (match h[id]? with
    | some (.miter m n _ (some k)) => (match h[m]? with
      | some (.map es) => if es.length = n then .val True (.tup [.str k, .top]) env h else .bad
      | _ => .bad)
    | _ => .bad)
  | _ => .bad
def nextOp (x : V) (env : Env) (h : H) : Res :=
  match x with
  | .ref id 0 =>
    (match h[id]? with
    | some (.siter s pos) => .val True (nextT s pos) env (h.set id (.siter s (nextP s pos)))
    | _ => .bad)
  | _ => .bad
theorem rangeOp_call {x : V} {t : Nat} {env : Env} {h : H} {f : FuncId} {args : List V} (he : rangeOp ty t x env h = .call f args) : False := by
  unfold rangeOp at he; repeat' split at he
  all_goals cases he
theorem rangeOp_each {x : V} {t : Nat} {env : Env} {h : H} {f : Value → Res} (he : rangeOp ty t x env h = .each f) : False := by
  unfold rangeOp at he; repeat' split at he
  all_goals cases he
theorem rangeOp_pan {x : V} {t : Nat} {env : Env} {h : H} {v : V} (he : rangeOp ty t x env h = .pan v) : False := by
  unfold rangeOp at he; repeat' split at he
  all_goals cases he
theorem nextOp_call {x : V} {env : Env} {h : H} {f : FuncId} {args : List V} (he : nextOp x env h = .call f args) : False := by
  unfold nextOp at he; repeat' split at he
  all_goals cases he
theorem nextOp_each {x : V} {env : Env} {h : H} {f : Value → Res} (he : nextOp x env h = .each f) : False := by
  unfold nextOp at he; repeat' split at he
  all_goals cases he
theorem nextM_call {x : V} {env : Env} {h : H} {f : FuncId} {args : List V} (he : nextM x env h = .call f args) : False := by
  unfold nextM at he; repeat' split at he
  all_goals cases he
theorem nextM_pan {x : V} {env : Env} {h : H} {v : V} (he : nextM x env h = .pan v) : False := by
  unfold nextM at he; repeat' split at he
  all_goals cases he
theorem entryOp_call {x : V} {env : Env} {h : H} {f : FuncId} {args : List V} (he : entryOp x env h = .call f args) : False := by
  unfold entryOp at he; repeat' split at he
  all_goals cases he
theorem entryOp_pan {x : V} {env : Env} {h : H} {v : V} (he : entryOp x env h = .pan v) : False := by
  unfold entryOp at he; repeat' split at he
  all_goals cases he
theorem entryOp_each {x : V} {env : Env} {h : H} {f : Value → Res} (he : entryOp x env h = .each f) : False := by
  unfold entryOp at he; repeat' split at he
  all_goals cases he
theorem nextOp_pan {x : V} {env : Env} {h : H} {v : V} (he : nextOp x env h = .pan v) : False := by
  unfold nextOp at he; repeat' split at he
  all_goals cases he
theorem sliceNil_each {op : BinOp} {t : Nat} {c : Bool} {x y : V} {env : Env} {h : H} {r : Res} (hr : sliceNil ty op t c x y env h = some r) : ∃ xs b, x = .sl (match x with | .sl s _ => s | _ => 0) xs ∧ (∃ e s, y = .nils e s) ∧ c = true ∧ (∃ e, (ty t).k = .slice e) ∧ ((op = .eql ∧ b = false) ∨ (op = .neq ∧ b = true)) ∧ r = .each fun u => .val True (.bool (nilB b xs u)) env h := by
  unfold sliceNil at hr
  split at hr
  · rename_i hk
    split at hr
    · rename_i hc
      simp only [Option.some.injEq] at hr
      exact ⟨_, false, rfl, ⟨_, _, rfl⟩, hc, ⟨_, hk⟩, .inl ⟨rfl, rfl⟩, hr.symm⟩
    · cases hr
  · rename_i hk
    split at hr
    · rename_i hc
      simp only [Option.some.injEq] at hr
      exact ⟨_, true, rfl, ⟨_, _, rfl⟩, hc, ⟨_, hk⟩, .inr ⟨rfl, rfl⟩, hr.symm⟩
    · cases hr
  · cases hr
theorem sliceNil_res {op : BinOp} {t : Nat} {c : Bool} {x y : V} {env : Env} {h : H} {q r : Res} (he : (sliceNil ty op t c x y env h).getD q = r) (hr : ∀ f, r ≠ .each f) : sliceNil ty op t c x y env h = none ∧ q = r := by
  cases hs : sliceNil ty op t c x y env h with
  | none => rw [hs] at he; exact ⟨rfl, he⟩
  | some r' =>
    obtain ⟨_, _, _, _, _, _, _, hf⟩ := sliceNil_each ty hs
    rw [hs] at he
    exact absurd (he.symm.trans hf) (hr _)
/-- One operation. 'tk': the slots into which what is owned is moved. -/
def aop (tk : List Nat) (o : Oper) (env : Env) (h : H) : Res :=
  match o.op with
  | .move (.tmp i) => if tkB tk o.dst && neD i o.dst then .val True (env.get i) (env.put i (env.get i).demote) h else .val True (env.get i).demote env h
  | .move x => .val True (ev ty env o.type x) env h
  | .assign (.tmp i) => if neD i o.dst then .val True (env.get i).toOwn (env.put i (env.get i).demote) h else .val True (env.get i).demote env h
  | .assign x => .val True (ev ty env o.type x).toOwn env h
  | .pick c a b => (pickV (ev ty env 0 c) (ev ty env o.type a) (ev ty env o.type b)).res env h
  | .alloc t => .val ((ty t).zero.all V.plain = true ∧ 0 < (ty t).size) (.ref h.length 0) env (h ++ [.cells t ((ty t).zero.map V.toOwn)])
  | .box t x => .val ((ev ty env t x).cells.all V.plain = true) (.ref h.length 0) env (h ++ [.cells t ((ev ty env t x).cells.map V.toOwn)])
  | .build t parts => (match fill ty (placeOf ty t) env parts.toList (buildOk ty t ∧ 0 < (ty t).size ∧ (ty t).zero.all V.plain = true) (ty t).zero with | some (p, cs) => .val p (.agg cs) env h | none => .bad)
  | .buildSlice t n parts =>
    (match (ty t).k with
    | .slice el => (match fill ty (placeOf ty t) env parts.toList (n * (ty el).size ≤ 16777216 ∧ 0 < (ty el).size ∧ (ty el).zero.all V.plain = true) (repl (ty el).zero n) with
      | some (p, cs) => .val p (if tkB tk o.dst = true then .own el (ty el).size (chunks (ty el) n cs) else .sl (ty el).size (chunks (ty el) n cs)) env h
      | none => .bad)
    | _ => .bad)
  | .load t a => load ty t (tkB tk o.dst) (lnB tk o.dst) (ev ty env 0 a) env h
  | .store t a (.tmp i) => store ty t (ev ty env 0 a) (env.get i) (env.put i (env.get i).demote) h
  | .store t a x => store ty t (ev ty env 0 a) (ev ty env t x) env h
  | .nilCheck x => (match ev ty env 0 x with | .ref id off => .val True (.ref id off) env h | .imm cs => .val True (.imm cs) env h | _ => .bad)
  | .binOp op t x y t' => (sliceNil ty op t (isC x || isC y) (ev ty env t x) (ev ty env t' y) env h).getD ((binOpT ty op t (isC x || isC y) (ev ty env t x) (ev ty env t' y)).res env h)
  | .unOp op t x => (unOp op (ev ty env t x)).res env h
  | .convert s d x => (convert ty s d (ev ty env s x) h).res env h
  | .makeInterface t x => (match (ty t).k with | .iface => .bad | .other => .bad | _ => .val True (.iface t (ev ty env t x)) env h)
  | .makeFunc (.func f) first cap => .val (first.size = 0) (.func (.func f) [] (cap.toList.map (ev ty env 0))) env h
  | .makeMap _ none => .val True (.map h.length) env (h ++ [.map []])
  | .makeSlice t l c =>
    (match (ty t).k, ev ty env 0 l, ev ty env 0 c with
    | .slice el, .int _ n, .int _ m => .val ((0 ≤ n ∧ n = m) ∧ (ty el).zero.all V.plain = true ∧ 0 < (ty el).size ∧ (ty el).bytes * n ≤ 140737488355328 ∧ n ≤ 4611686018427387904)
      (.msl h.length 0 n.toNat (ty el).size) env (h ++ [.cells el (repl ((ty el).zero.map V.toOwn) n.toNat)])
    | _, _, _ => .bad)
  | .slice t x lo hi none => sliceOp ty (tkB tk o.dst) t x lo hi env h
  | .slice t x lo hi (some m) => (slice3 ty t (ev ty env t x) (lo.map (ev ty env 0)) (hi.map (ev ty env 0)) (ev ty env 0 m)).res env h
  | .fieldAddr s x f =>
    (match fieldOf ty s f, ev ty env 0 x with
    | some (off, t), .ref id o => .val (0 < (ty t).size) (.ref id (o + off)) env h
    | some (off, t), .imm cs => .val (0 < (ty t).size ∧ off + (ty t).size ≤ cs.length) (.imm (cs.drop off)) env h
    | _, _ => .bad)
  | .field s x f =>
    (match fieldOf ty s f, ev ty env s x with
    | some (off, t), .agg cs => .val (0 < (ty t).size ∧ off + (ty t).size ≤ cs.length) ((ty t).val ((cs.drop off).take (ty t).size)) env h
    | _, _ => .bad)
  | .indexAddr t x i => (indexAddr ty t (ev ty env t x) (ev ty env 0 i)).res env h
  | .index t x i => (index ty t (ev ty env t x) (ev ty env 0 i)).res env h
  | .extract t i => (match ev ty env 0 t with | .tup vs => (match vs[i]? with | some v => .val True v env h | none => .bad) | _ => .bad)
  | .call { callee := .builtin b, args, argTypes } => if rwB tk o.dst = true then rowApp ty b argTypes.toList args.toList env h else builtin ty b argTypes.toList args.toList env h
  | .call { callee := .value f, args, argTypes } =>
    (match ev ty env 0 f with
    | .func (.func f) first cap => if args.size = argTypes.size ∧ f < 1000000 then .call f (first ++ ((args.toList.zip argTypes.toList).map fun (x, t) => ev ty env t x) ++ cap) else .bad
    | _ => .bad)
  | .panic x => (match ev ty env 0 x with | .iface t v => .pan (.iface t v) | _ => .bad)
  | .typeAssert x _ t ok => (match ev ty env 0 x with
    | .iface t' v => (match (ty t).k with | .iface => .bad | .other => .bad | _ => if t' = t then .val True (if ok = true then .tup [v, .bool true] else v) env h else .bad)
    | _ => .bad)
  | .insert t m k x => update ty t (ev ty env t m) (ev ty env 0 k) (ev ty env (elemOf (ty t).k) x) env h
  | .mapUpdate t m k x => update ty t (ev ty env t m) (ev ty env 0 k) (ev ty env (elemOf (ty t).k) x) env h
  | .lookup t m k c => (lookup ty t c (ev ty env t m) (ev ty env 0 k) h).res env h
  | .range t x => rangeOp ty t (ev ty env t x) env h
  | .next x true => nextOp (ev ty env 0 x) env h
  | .next x false => nextM (ev ty env 0 x) env h
  | .entry x => entryOp (ev ty env 0 x) env h
  | _ => .bad

variable (C : CallP) (n : Nat) (tk : List Nat)

/-- Is the operation wanted? none: not known. -/
def wanted (ops : List Oper) (o : Oper) (env : Env) : Option Bool :=
  match o.guard with
  | none => some true
  | some (g, b) =>
    match (ops[g]?).bind (·.dst) with
    | some t => (match env.get t with | .bool c => some (c == b) | .tup [] => some false | _ => none)
    | none => none

def putD (dst : Option Nat) (env : Env) (v : V) : Env :=
  match dst with
  | none => env
  | some i => env.put i v
def dstOk (dst : Option Nat) : Prop :=
  match dst with
  | none => True
  | some i => i < n

/-- What follows an operation. -/
abbrev Post := Env → H → Prop
def retK (o : Oper) (env : Env) (Kc : Env → H → Prop) (X : V → Env → H → Prop) (r : Out) (h : H) : Prop :=
  match r with
  | .ret v => Kc (putD o.dst env v) h
  | .panic v => X v env h
  | .steps _ _ => False
def Res.upon (r : Res) (o : Oper) (env : Env) (h : H) (Kc : Env → H → Prop) (X : V → Env → H → Prop) : Prop :=
  match r with
  | .val p v env' h' => p ∧ dstOk n o.dst ∧ Kc (putD o.dst env' v) h'
  | .call f args => dstOk n o.dst ∧ C f args h (retK o env Kc X)
  | .pan v => X v env h
  | .each f => ∀ u, (f u).upon o env h Kc X
  | .bad => False

/-- One operation, as it is wanted or not. -/
def runOp (want : Option Bool) (o : Oper) (env : Env) (h : H) (Kc : Env → H → Prop) (X : V → Env → H → Prop) : Prop :=
  match want with
  | some true => (aop ty tk o env h).upon C n o env h Kc X
  | some false => dstOk n o.dst ∧ Kc (putD o.dst env (.tup [])) h
  | none => False

/-- The operations of a region, in the text's order. -/
def evalOps (ops : List Oper) : List Oper → (Env → H → Prop) → (V → Env → H → Prop) → Env → H → Prop
  | [], Kc, _ => Kc
  | o :: os, Kc, X => fun env h => runOp ty C n tk (wanted ops o env) o env h (evalOps ops os Kc X) X

end
end Go.Proofs.YtmjohmefhikelaaDoor.Pv
