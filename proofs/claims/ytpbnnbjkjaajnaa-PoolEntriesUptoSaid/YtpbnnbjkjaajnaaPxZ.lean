/- The operations, with Booleans in place of conditions: printed by mkb.py out of the evaluator's own text. The operations with Booleans say the same as those with conditions. One operation, with Booleans. -/
import Derived.Test.YtpbnnbjkjaajnaaPwDf
set_option linter.unusedVariables false
set_option linter.unusedSimpArgs false
set_option maxHeartbeats 4000000
namespace Go.Proofs.Ytpbnnbjkjaajnaa.Pv
open Go
noncomputable section
def getL (e : Env) (i : Nat) : V := List.rec (motive := fun _ => V) .top (fun p _ ih => Bool.rec (motive := fun _ => V) ih p.2 (Nat.beq i p.1)) e
def getT (b t : Env) (i : Nat) : V := List.rec (motive := fun _ => V) (getL b i) (fun p _ ih => Bool.rec (motive := fun _ => V) ih p.2 (Nat.beq i p.1)) t
theorem getL_nil (i : Nat) : getL [] i = .top := rfl
theorem getL_cons (j : Nat) (u : V) (r : Env) (i : Nat) : getL ((j, u) :: r) i = match Nat.beq i j with | true => u | false => getL r i := by
  show _ = _
  cases h : Nat.beq i j <;> simp [getL, h]
theorem getT_cons (b : Env) (j : Nat) (u : V) (r : Env) (i : Nat) : getT b ((j, u) :: r) i = match Nat.beq i j with | true => u | false => getT b r i := by
  show _ = _
  cases h : Nat.beq i j <;> simp [getT, h]
theorem beq_no0 {i j : Nat} (e : ¬ i = j) : Nat.beq i j = false := by
  cases hb : Nat.beq i j with
  | false => rfl
  | true => exact absurd (Nat.eq_of_beq_eq_true hb) e
theorem getL_eq : ∀ (env : Env) (i : Nat), getL env i = env.get i
  | [], i => rfl
  | (j, u) :: r, i => by
    rw [getL_cons]
    by_cases e : i = j
    · subst e; rw [Nat.beq_refl]; simp [Env.get]
    · rw [beq_no0 e]
      simp only [Env.get, if_neg e, getL_eq r i]
/-- The slots: those that the region at hand has written, the last one first, and those that were there ahead of it. -/
inductive EnvX where
  | mk (t b : Env)
def EnvX.toE : EnvX → Env
  | .mk t b => t.foldr (fun p e => e.put p.1 p.2) b
def EnvX.of (b : Env) : EnvX := .mk [] b
theorem EnvX.of_toE (b : Env) : (EnvX.of b).toE = b := rfl
def EnvX.put : EnvX → Nat → V → EnvX
  | .mk t b, i, v => .mk ((i, v) :: t) b
theorem EnvX.put_toE (x : EnvX) (i : Nat) (v : V) : (x.put i v).toE = x.toE.put i v := by cases x; rfl
def getF : EnvX → Nat → V
  | .mk t b, i => getT b t i
theorem getF_eq (x : EnvX) (i : Nat) : getF x i = x.toE.get i := by
  obtain ⟨t, b⟩ := x
  show getT b t i = _
  induction t with
  | nil => exact getL_eq b i
  | cons p r ih =>
    obtain ⟨j, u⟩ := p
    rw [getT_cons]
    show _ = (Env.put (EnvX.toE (.mk r b)) j u).get i
    by_cases e : i = j
    · subst e; rw [Nat.beq_refl, get_put_self]
    · rw [beq_no0 e, get_put_ne e]; exact ih
def evF (ty : Nat → Ty) (env : EnvX) (t : Nat) : Operand → V
  | .tmp i => (getF env i).demote
  | .const v => constV ty t v
  | .func f => .func (.func f) [] []
  | .global _ => .top
theorem evF_eq (ty : Nat → Ty) (env : EnvX) : evF ty env = ev ty env.toE := by
  funext t x
  cases x <;> simp [evF, ev, getF_eq]
inductive ResX where
  | val (p : Bool) (v : V) (env : EnvX) (h : H)
  | call (f : FuncId) (args : List V)
  | pan (v : V)
  | each (f : Value → ResX)
  | bad
inductive R1X where
  | ok (p : Bool) (v : V)
  | bad
def R1X.res (r : R1X) (env : EnvX) (h : H) : ResX :=
  match r with
  | .ok p v => .val p v env h
  | .bad => .bad
def R1X.up : R1X → R1
  | .ok p v => .ok (p = true) v
  | .bad => .bad
def ResX.up : ResX → Res
  | .val p v env h => .val (p = true) v env.toE h
  | .call f args => .call f args
  | .pan v => .pan v
  | .each f => .each fun u => (f u).up
  | .bad => .bad
theorem R1X.res_up (r : R1X) (env : EnvX) (h : H) : (r.res env h).up = r.up.res env.toE h := by cases r <;> rfl
instance (n b : Nat) : Decidable (room n b) := by unfold room; infer_instance

def K.isStr : K → Bool
  | .str => true
  | _ => false
theorem K.isStr_iff (k : K) : (k.isStr = true) = (k = .str) := by cases k <;> simp [K.isStr]
section
variable (ty : Nat → Ty)

def intOpX (op : BinOp) (k : IntKind) (a b : Int) : R1X :=
  match op with
  | .add => .ok (decide True) (.int k (k.wrap (a + b)))
  | .sub => .ok (decide True) (.int k (k.wrap (a - b)))
  | .mul => .ok (decide True) (.int k (k.wrap (a * b)))
  | .quo => .ok (decide (b ≠ 0)) (.int k (k.wrap (a.tdiv b)))
  | .rem => .ok (decide (b ≠ 0)) (.int k (a.tmod b))
  | .and => .ok (decide True) (.int k (bitsV .and k a b))
  | .or => .ok (decide True) (.int k (bitsV .or k a b))
  | .xor => .ok (decide True) (.int k (bitsV .xor k a b))
  | .andNot => .ok (decide True) (.int k (bitsV .andNot k a b))
  | .eql => .ok (decide True) (.bool (decide (a = b)))
  | .neq => .ok (decide True) (.bool (!decide (a = b)))
  | .lss => .ok (decide True) (.bool (decide (a < b)))
  | .leq => .ok (decide True) (.bool (decide (a ≤ b)))
  | .gtr => .ok (decide True) (.bool (decide (b < a)))
  | .geq => .ok (decide True) (.bool (decide (b ≤ a)))
  | _ => .bad
def shiftOpX (op : BinOp) (k : IntKind) (a b : Int) : R1X :=
  match op with
  | .shl => .ok (decide (0 ≤ b)) (.int k (k.wrap (a * 2 ^ (min b.toNat k.bits))))
  | .shr => .ok (decide (0 ≤ b)) (.int k (a.fdiv (2 ^ (min b.toNat k.bits))))
  | _ => .bad
def strOpX (op : BinOp) (a b : List UInt8) : R1X :=
  match op with
  | .add => .ok (decide (a.length + b.length ≤ 4611686018427387904)) (.str (a ++ b))
  | .eql => .ok (decide True) (.bool (decide (a = b)))
  | .neq => .ok (decide True) (.bool (!decide (a = b)))
  | .lss => .ok (decide True) (.bool (Op.bytesLess a b))
  | .leq => .ok (decide True) (.bool (Op.bytesLess a b || decide (a = b)))
  | .gtr => .ok (decide True) (.bool !(Op.bytesLess a b || decide (a = b)))
  | .geq => .ok (decide True) (.bool !(Op.bytesLess a b))
  | _ => .bad
def fltOpX (op : BinOp) (k : FloatKind) (a b : Nat) : R1X :=
  match op with
  | .eql => .ok (decide True) (.bool (k.format.order a b == some .eq))
  | .neq => .ok (decide True) (.bool (k.format.order a b != some .eq))
  | .lss => .ok (decide True) (.bool (k.format.order a b == some .lt))
  | .leq => .ok (decide True) (.bool (k.format.order a b == some .lt || k.format.order a b == some .eq))
  | .gtr => .ok (decide True) (.bool (k.format.order a b == some .gt))
  | .geq => .ok (decide True) (.bool (k.format.order a b == some .gt || k.format.order a b == some .eq))
  | _ => .bad
def binOpX (op : BinOp) (x y : V) : R1X :=
  match x, y with
  | .int k a, .int k' b => if isShift op then shiftOpX op k a b else if k = k' then intOpX op k a b else .bad
  | .str a, .str b => strOpX op a b
  | .flt k a, .flt k' b => if k = k' then fltOpX op k a b else .bad
  | _, _ => .bad
def binOpTX (op : BinOp) (t : Nat) (c : Bool) (x y : V) : R1X :=
  match op, (ty t).k, x, y with
  | .eql, .bool, .bool a, .bool b => .ok (decide True) (.bool (a == b))
  | .neq, .bool, .bool a, .bool b => .ok (decide True) (.bool (!(a == b)))
  | .eql, .iface, .iface _ _, .nili => .ok (decide True) (.bool false)
  | .neq, .iface, .iface _ _, .nili => .ok (decide True) (.bool true)
  | .eql, .iface, .nili, .nili => if c then .ok (decide True) (.bool true) else .bad
  | .neq, .iface, .nili, .nili => if c then .ok (decide True) (.bool false) else .bad
  | .eql, .ptr _, .nilp, .nilp => .ok (decide True) (.bool true)
  | .neq, .ptr _, .nilp, .nilp => .ok (decide True) (.bool false)
  | .eql, .ptr _, .ref _ _, .nilp => .ok (decide True) (.bool false)
  | .neq, .ptr _, .ref _ _, .nilp => .ok (decide True) (.bool true)
  | .eql, .ptr _, .imm _, .nilp => .ok (decide True) (.bool false)
  | .neq, .ptr _, .imm _, .nilp => .ok (decide True) (.bool true)
  | .eql, .slice _, .nils _ _, .nils _ _ => if c then .ok (decide True) (.bool true) else .bad
  | .neq, .slice _, .nils _ _, .nils _ _ => if c then .ok (decide True) (.bool false) else .bad
  | _, _, _, _ => binOpX op x y
def unOpX (op : UnOp) (x : V) : R1X :=
  match op, x with
  | .not, .bool b => .ok (decide True) (.bool (!b))
  | .neg, .int k n => .ok (decide True) (.int k (k.wrap (0 - n)))
  | .xor, .int k n => .ok (decide True) (.int k (bitsV .xor k (if k.signed then -1 else k.max) n))
  | _, _ => .bad
def strOfX (p : Bool) (o : Option (List UInt8)) : R1X := match o with | some l => .ok (decide p) (.str l) | none => .bad
def toIntX (k : IntKind) (x : Option Int) : R1X := .ok (decide (Option.isSome x = true ∧ k.min ≤ x.getD 0 ∧ x.getD 0 ≤ k.max)) (.int k (x.getD 0))
def convertX (src dst : Nat) (x : V) (h : H) : R1X :=
  match (ty src).k, (ty dst).k, x with
  | .int _, .int k, .int _ n => .ok (decide True) (.int k (k.wrap n))
  | .str, .str, .str s => .ok (decide True) (.str s)
  | .int _, .str, .int _ n => .ok (decide True) (.str (Utf8.encode n).data.toList)
  | .slice e, .str, .sl 1 xs => if (ty e).k.isU8 then strOfX (decide True) (toBytes xs) else .bad
  | .slice e, .str, .nils _ _ => if (ty e).k.isU8 then .ok (decide True) (.str []) else .bad
  | .slice e, .str, .msl id off len 1 =>
    if (ty e).k.isU8 then (match h.row id with | some cs => strOfX (decide (off + len ≤ cs.length)) (toBytes ((cs.drop off).take len)) | none => .bad) else .bad
  | .str, .slice e, .str s => if (ty e).k.isU8 then .ok (decide True) (.sl 1 (s.map byteV)) else .bad
  | .int _, .flt k, .int _ n => .ok (decide True) (.flt k (k.nearest n))
  | .flt _, .int k, .flt s b => toIntX k ((s.decode b).toInt .zero)
  | _, _, _ => .bad
def fillX (place : Nat → Option (Nat × Nat × Nat)) (env : EnvX) : List (Nat × Operand) → Bool → List V → Option (Bool × List V)
  | [], p, cs => some (p, cs)
  | (i, x) :: rest, p, cs =>
    match place i with
    | none => none
    | some (off, size, t) =>
      fillX place env rest (decide (p ∧ (evF ty env t x).cells.length = size ∧ 0 < size ∧ (evF ty env t x).cells.all V.plain = true ∧ off + size ≤ cs.length)) (splice cs off (evF ty env t x).cells)
def loadNX (c : V) (p : Bool) (env : EnvX) (h : H) (k : V → H) : ResX :=
  match c with
  | .pri _ e sz xs => .each fun u => .val (decide p) (.raw u) env (k (.pri (some u) e sz xs))
  | c => .val (decide p) c.demote env h
def loadX (t : Nat) (tk ln : Bool) (p : V) (env : EnvX) (h : H) : ResX :=
  match p with
  | .imm cs => .val (decide ((ty t).size ≤ cs.length ∧ 0 < (ty t).size)) ((ty t).val (cs.take (ty t).size)) env h
  | .ref id off =>
    match h.row id with
    | some cs =>
      if (ty t).agg then .val (decide (off + (ty t).size ≤ cs.length ∧ 0 < (ty t).size)) (.agg (((cs.drop off).take (ty t).size).map V.demote)) env h
      else if tk then .val (decide (off < cs.length ∧ (ty t).size = 1)) (cs.getD off .top) env (h.set id (.cells (h.ety id) (cs.set off (cs.getD off .top).left)))
      else if ln then .val (decide (off < cs.length ∧ (ty t).size = 1)) (cs.getD off .top).lenOf env h
      else loadNX (cs.getD off .top) (decide (off < cs.length ∧ (ty t).size = 1)) env h fun c => h.set id (.cells (h.ety id) (cs.set off c))
    | none => .bad
  | _ => .bad
def storeX (t : Nat) (p x : V) (env : EnvX) (h : H) : ResX :=
  match p with
  | .ref id off =>
    match h.row id with
    | some cs =>
      .val (decide (x.cells.length = (ty t).size ∧ 0 < (ty t).size ∧ off + (ty t).size ≤ cs.length ∧ x.cells.all V.plain = true)) .top env (h.set id (.cells (h.ety id) (splice cs off (x.cells.map V.toOwn))))
    | none => .bad
  | _ => .bad
def appendX (t : Nat) (s x : V) : R1X :=
  match (ty t).k, s, x with
  | .slice e, .own e' sz xs, .sl sz' ys => .ok (decide ((e' = e ∧ sz = (ty e).size) ∧ (sz' = (ty e).size ∧ 0 < sz') ∧ room (xs.length + ys.length) (ty e).bytes)) (.own e' sz (xs ++ ys))
  | .slice e, .cap sz xs, .sl sz' ys => .ok (decide (sz = (ty e).size ∧ (sz' = (ty e).size ∧ 0 < sz') ∧ ys ≠ [] ∧ room (xs.length + ys.length) (ty e).bytes)) (.own e sz (xs ++ ys))
  | .slice e, .own e' sz xs, .nils _ _ => .ok (decide (e' = e ∧ (sz = (ty e).size ∧ 0 < (ty e).size) ∧ room (xs.length + 0) (ty e).bytes)) (.own e' sz xs)
  | .slice e, .pri _ e' sz xs, .sl sz' ys => .ok (decide ((e' = e ∧ sz = (ty e).size) ∧ (sz' = (ty e).size ∧ 0 < sz') ∧ room (xs.length + ys.length) (ty e).bytes)) (.pri none e' sz (xs ++ ys))
  | .slice e, .own e' sz xs, .str s => .ok (decide ((e' = e ∧ sz = (ty e).size) ∧ ((ty e).size = 1 ∧ (ty e).bytes = 1) ∧ room (xs.length + s.length) 1)) (.own e' sz (xs ++ s.map byteV))
  | _, _, _ => .bad
def hiBX (x : Option V) (most : Nat) : Option (Bool × Nat) :=
  match x with
  | none => some (decide True, most)
  | some (.int _ i) => some (decide (0 ≤ i ∧ i ≤ most), i.toNat)
  | _ => none
def loBX (x : Option V) (most : Nat) : Option (Bool × Nat) :=
  match x with
  | none => some (decide True, 0)
  | some (.int _ i) => some (decide (0 ≤ i ∧ i ≤ most), i.toNat)
  | _ => none
def boundsX (lo hi : Option V) (len : Nat) : Option (Bool × Nat × Nat) :=
  match hiBX hi len with
  | some (p, h) => (match loBX lo h with | some (q, l) => some (decide (p ∧ q), l, h) | none => none)
  | none => none
def withBX (b : Option (Bool × Nat × Nat)) (f : Nat → Nat → V) (q : Bool) : R1X :=
  match b with
  | some (p, l, h) => .ok (decide (p ∧ q)) (f l h)
  | none => .bad
def sliceX (t : Nat) (x : V) (lo hi : Option V) : R1X :=
  match (ty t).k, x with
  | .str, .str s => withBX (boundsX lo hi s.length) (fun l h => .str ((s.take h).drop l)) (decide (True))
  | .slice e, .sl sz xs => withBX (boundsX lo hi xs.length) (fun l h => .sl sz ((xs.take h).drop l)) (decide (sz = (ty e).size ∧ 0 < sz))
  | .slice e', .nils e sz => withBX (boundsX lo hi 0) (fun _ _ => .nils e sz) (decide (0 < (ty e').size))
  | .slice e, .msl id off len sz => withBX (boundsX lo hi len) (fun l h => .msl id (off + l * sz) (h - l) sz) (decide (sz = (ty e).size ∧ 0 < sz))
  | .arr n e, .ref id off => withBX (boundsX lo hi n) (fun l h => .msl id (off + l * (ty e).size) (h - l) (ty e).size) (decide (0 < (ty e).size))
  | _, _ => .bad
def cutX (t : Nat) (i : Nat) (v : V) (lo hi : Option V) (env : EnvX) (h : H) : ResX :=
  match (ty t).k, v, lo with
  | .slice e, .pri _ e' sz xs, none =>
    (match hiBX hi xs.length with
    | some (p, k) => .val (decide (p ∧ e' = e ∧ sz = (ty e).size ∧ 0 < sz)) (.pri none e' sz (xs.take k)) (env.put i .top) h
    | none => .bad)
  | .slice e, .own e' sz [], none =>
    (match hiBX hi 0 with
    | some (p, k) => .val (decide (p ∧ e' = e ∧ sz = (ty e).size ∧ 0 < sz)) (.own e' sz []) (env.put i .top) h
    | none => .bad)
  | .slice e, .own e' sz xs, some (.int _ l) =>
    (match hi with
    | none => .val (decide ((0 ≤ l ∧ l ≤ xs.length) ∧ e' = e ∧ sz = (ty e).size ∧ 0 < sz)) (.own e' sz (xs.drop l.toNat)) (env.put i .top) h
    | some _ => .bad)
  | _, _, _ => .bad
def slice3X (t : Nat) (x : V) (lo hi : Option V) (m : V) : R1X :=
  match (ty t).k, x, hi, m with
  | .slice e, .sl sz xs, some (.int _ a), .int _ b => if a = b then withBX (boundsX lo (some (.int .i64 a)) xs.length) (fun l h => .cap sz ((xs.take h).drop l)) (decide (sz = (ty e).size ∧ 0 < sz)) else .bad
  | _, _, _, _ => .bad
def sliceNilX (op : BinOp) (t : Nat) (c : Bool) (x y : V) (env : EnvX) (h : H) : Option ResX :=
  match op, (ty t).k, x, y with
  | .eql, .slice _, .sl _ xs, .nils _ _ => if c = true then some (.each fun u => .val (decide True) (.bool (nilB false xs u)) env h) else none
  | .neq, .slice _, .sl _ xs, .nils _ _ => if c = true then some (.each fun u => .val (decide True) (.bool (nilB true xs u)) env h) else none
  | _, _, _, _ => none
def indexAddrX (t : Nat) (x i : V) : R1X :=
  match (ty t).k, x, i with
  | .slice e, .sl sz xs, .int _ n => .ok (decide ((0 ≤ n ∧ n < xs.length) ∧ sz = (ty e).size)) (.imm (xs.getD n.toNat .top).cells)
  | .slice e, .msl id off len sz, .int _ n => .ok (decide ((0 ≤ n ∧ n < len) ∧ sz = (ty e).size ∧ 0 < sz)) (.ref id (off + n.toNat * sz))
  | .arr m e, .ref id off, .int _ n => .ok (decide ((0 ≤ n ∧ n < m) ∧ 0 < (ty e).size)) (.ref id (off + n.toNat * (ty e).size))
  | _, _, _ => .bad
def indexX (t : Nat) (x i : V) : R1X :=
  match (ty t).k, x, i with
  | .str, .str s, .int _ n => .ok (decide (0 ≤ n ∧ n < s.length)) (byteV (s.getD n.toNat 0))
  | .arr m e, .agg cs, .int _ n => .ok (decide ((0 ≤ n ∧ n < m) ∧ n.toNat * (ty e).size + (ty e).size ≤ cs.length ∧ 0 < (ty e).size)) ((ty e).val ((cs.drop (n.toNat * (ty e).size)).take (ty e).size))
  | _, _, _ => .bad
def lenVX (t : Nat) (x : V) (h : H) : R1X :=
  match (ty t).k, x with
  | .str, .str s => .ok (decide True) (.int .i64 s.length)
  | .slice _, .sl _ xs => .ok (decide True) (.int .i64 xs.length)
  | .slice _, .nils _ _ => .ok (decide True) (.int .i64 0)
  | .slice _, .slen n => .ok (decide True) (.int .i64 n)
  | .slice _, .msl _ _ len _ => .ok (decide True) (.int .i64 len)
  | .arr n _, _ => .ok (decide True) (.int .i64 n)
  | .map _ _, .nilm => .ok (decide True) (.int .i64 0)
  | .map _ _, .map id => (match h[id]? with | some (.map es) => .ok (decide True) (.int .i64 es.length) | _ => .bad)
  | _, _ => .bad
def buildOkX (t : Nat) : Bool :=
  match (ty t).k with
  | .struct _ => decide (True)
  | .arr _ e => decide (0 < (ty e).size)
  | _ => decide (False)
def minVX (x y : V) : R1X := match x, y with | .int k a, .int _ b => .ok (decide True) (.int k (if b < a then b else a)) | _, _ => .bad
def maxVX (x y : V) : R1X := match x, y with | .int k a, .int _ b => .ok (decide True) (.int k (if a < b then b else a)) | _, _ => .bad
def cpxVX (x y : V) : R1X := match x, y with | .flt k a, .flt k' b => if k = k' then .ok (decide True) (.cpx k a b) else .bad | _, _ => .bad
def realVX (x : V) : R1X := match x with | .cpx k a _ => .ok (decide True) (.flt k a) | _ => .bad
def imagVX (x : V) : R1X := match x with | .cpx k _ b => .ok (decide True) (.flt k b) | _ => .bad
def builtinX (b : Builtin) (argTypes : List Nat) (args : List Operand) (env : EnvX) (h : H) : ResX :=
  match b, argTypes, args with
  | .len, [t], [x] => (lenVX ty t (evF ty env t x) h).res env h
  | .append, [t, t'], [.tmp s, x] => if appT ty t t' (evF ty env t x) = true then (appendX ty t (getF env s).asOwn (evF ty env t x)).res (env.put s (getF env s).demote) h else .bad
  | .append, [t, t'], [.const c, x] => if appT ty t t' (evF ty env t x) = true then (appendX ty t (constV ty t c).asOwn (evF ty env t x)).res env h else .bad
  | .min, [t, t'], [x, y] => (minVX (evF ty env t x) (evF ty env t' y)).res env h
  | .max, [t, t'], [x, y] => (maxVX (evF ty env t x) (evF ty env t' y)).res env h
  | .complex, [t, t'], [x, y] => (cpxVX (evF ty env t x) (evF ty env t' y)).res env h
  | .real, [t], [x] => (realVX (evF ty env t x)).res env h
  | .imag, [t], [x] => (imagVX (evF ty env t x)).res env h
  | _, _, _ => .bad
def rowAppX (b : Builtin) (argTypes : List Nat) (args : List Operand) (env : EnvX) (h : H) : ResX :=
  match b, argTypes, args with
  | .append, [t, t'], [.tmp s, x] =>
    (match (ty t).k, getF env s, evF ty env t x with
    | .slice e, .nils _ sz, .sl sz' ys => if t = t' ∧ looseT.contains e = true then .val (decide ((sz' = (ty e).size ∧ 0 < sz') ∧ ys ≠ [] ∧ (ys.flatMap V.cells).all V.plain = true ∧ room ys.length (ty e).bytes)) (.msl h.length 0 ys.length sz') env (h ++ [.cells e ((ys.flatMap V.cells).map V.toOwn)]) else .bad
    | _, _, _ => .bad)
  | _, _, _ => .bad
def pickVX (c a b : V) : R1X := match c with | .bool c => .ok (decide True) (if c = true then a else b) | _ => .bad
def lookupX (t : Nat) (c : Bool) (m k : V) (h : H) : R1X :=
  match (ty t).k, m, k with
  | .map kt et, .map id, .str s => (match h[id]? with
    | some (.map es) => .ok (decide ((ty kt).k.isStr = true ∧ textKeys es = true ∧ 0 < (ty et).size)) (lookV c (ty et) (mapGet s es))
    | _ => .bad)
  | .map kt et, .nilm, .str s => .ok (decide ((ty kt).k.isStr = true ∧ 0 < (ty et).size)) (lookV c (ty et) none)
  | _, _, _ => .bad
def updateX (t : Nat) (m k v : V) (env : EnvX) (h : H) : ResX :=
  match (ty t).k, m, k with
  | .map kt et, .map id, .str s => (match h[id]? with
    | some (.map es) => .val (decide ((ty kt).k.isStr = true ∧ textKeys es = true)) .top env (h.set id (.map (mapSet s v es)))
    | _ => .bad)
  | _, _, _ => .bad
def sliceOpX (moved : Bool) (t : Nat) (x : Operand) (lo hi : Option Operand) (env : EnvX) (h : H) : ResX :=
  match moved, x with
  | true, .tmp i => cutX ty t i (getF env i) (lo.map (evF ty env 0)) (hi.map (evF ty env 0)) env h
  | _, x => (sliceX ty t (evF ty env t x) (lo.map (evF ty env 0)) (hi.map (evF ty env 0))).res env h
def rangeOpX (t : Nat) (x : V) (env : EnvX) (h : H) : ResX :=
  match (ty t).k, x with
  | .str, .str s => .val (decide True) (.ref h.length 0) env (h ++ [.siter s 0])
  | .map _ _, .map id => (match h[id]? with
    | some (.map es) => (match keysOf es with
      | some ks => .val (decide True) (.ref h.length 0) env (h ++ [.miter id es.length ks none])
      | none => .bad)
    | _ => .bad)
  | _, _ => .bad
def nextMX (x : V) (env : EnvX) (h : H) : ResX :=
  match x with
  | .ref id 0 =>
    (match h[id]? with
    | some (.miter m n left _) => (match h[m]? with
      | some (.map es) => if es.length = n then (if left = [] then .val (decide True) (.tup [.bool false]) env h
        else .each fun u => .val (decide True) (.tup [.bool true, .str (left.getD (pickN left.length u) []), .top]) env (h.set id (.miter m n (left.eraseIdx (pickN left.length u)) (some (left.getD (pickN left.length u) []))))) else .bad
      | _ => .bad)
    | _ => .bad)
  | _ => .bad
def entryOpX (x : V) (env : EnvX) (h : H) : ResX :=
  match x with
  | .ref id 0 =>
    (match h[id]? with
    | some (.miter m n _ (some k)) => (match h[m]? with
      | some (.map es) => if es.length = n then .val (decide True) (.tup [.str k, .top]) env h else .bad
      | _ => .bad)
    | _ => .bad)
  | _ => .bad
def nextOpX (x : V) (env : EnvX) (h : H) : ResX :=
  match x with
  | .ref id 0 =>
    (match h[id]? with
    | some (.siter s pos) => .val (decide True) (nextT s pos) env (h.set id (.siter s (nextP s pos)))
    | _ => .bad)
  | _ => .bad
def aopX (tk : List Nat) (o : Oper) (env : EnvX) (h : H) : ResX :=
  match o.op with
  | .move (.tmp i) => if tkB tk o.dst && neD i o.dst then .val (decide True) (getF env i) (env.put i (getF env i).demote) h else .val (decide True) (getF env i).demote env h
  | .move x => .val (decide True) (evF ty env o.type x) env h
  | .assign (.tmp i) => if neD i o.dst then .val (decide True) (getF env i).toOwn (env.put i (getF env i).demote) h else .val (decide True) (getF env i).demote env h
  | .assign x => .val (decide True) (evF ty env o.type x).toOwn env h
  | .pick c a b => (pickVX (evF ty env 0 c) (evF ty env o.type a) (evF ty env o.type b)).res env h
  | .alloc t => .val (decide ((ty t).zero.all V.plain = true ∧ 0 < (ty t).size)) (.ref h.length 0) env (h ++ [.cells t ((ty t).zero.map V.toOwn)])
  | .box t x => .val (decide ((evF ty env t x).cells.all V.plain = true)) (.ref h.length 0) env (h ++ [.cells t ((evF ty env t x).cells.map V.toOwn)])
  | .build t parts => (match fillX ty (placeOf ty t) env parts.toList (decide (buildOkX ty t = true ∧ 0 < (ty t).size ∧ (ty t).zero.all V.plain = true)) (ty t).zero with | some (p, cs) => .val (decide p) (.agg cs) env h | none => .bad)
  | .buildSlice t n parts =>
    (match (ty t).k with
    | .slice el => (match fillX ty (placeOf ty t) env parts.toList (decide (n * (ty el).size ≤ 16777216 ∧ 0 < (ty el).size ∧ (ty el).zero.all V.plain = true)) (repl (ty el).zero n) with
      | some (p, cs) => .val (decide p) (if tkB tk o.dst = true then .own el (ty el).size (chunks (ty el) n cs) else .sl (ty el).size (chunks (ty el) n cs)) env h
      | none => .bad)
    | _ => .bad)
  | .load t a => loadX ty t (tkB tk o.dst) (lnB tk o.dst) (evF ty env 0 a) env h
  | .store t a (.tmp i) => storeX ty t (evF ty env 0 a) (getF env i) (env.put i (getF env i).demote) h
  | .store t a x => storeX ty t (evF ty env 0 a) (evF ty env t x) env h
  | .nilCheck x => (match evF ty env 0 x with | .ref id off => .val (decide True) (.ref id off) env h | .imm cs => .val (decide True) (.imm cs) env h | _ => .bad)
  | .binOp op t x y t' => (sliceNilX ty op t (isC x || isC y) (evF ty env t x) (evF ty env t' y) env h).getD ((binOpTX ty op t (isC x || isC y) (evF ty env t x) (evF ty env t' y)).res env h)
  | .unOp op t x => (unOpX op (evF ty env t x)).res env h
  | .convert s d x => (convertX ty s d (evF ty env s x) h).res env h
  | .makeInterface t x => (match (ty t).k with | .iface => .bad | .other => .bad | _ => .val (decide True) (.iface t (evF ty env t x)) env h)
  | .makeFunc (.func f) first cap => .val (decide (first.size = 0)) (.func (.func f) [] (cap.toList.map (evF ty env 0))) env h
  | .makeMap _ none => .val (decide True) (.map h.length) env (h ++ [.map []])
  | .makeSlice t l c =>
    (match (ty t).k, evF ty env 0 l, evF ty env 0 c with
    | .slice el, .int _ n, .int _ m => .val (decide ((0 ≤ n ∧ n = m) ∧ (ty el).zero.all V.plain = true ∧ 0 < (ty el).size ∧ (ty el).bytes * n ≤ 140737488355328 ∧ n ≤ 4611686018427387904))
      (.msl h.length 0 n.toNat (ty el).size) env (h ++ [.cells el (repl ((ty el).zero.map V.toOwn) n.toNat)])
    | _, _, _ => .bad)
  | .slice t x lo hi none => sliceOpX ty (tkB tk o.dst) t x lo hi env h
  | .slice t x lo hi (some m) => (slice3X ty t (evF ty env t x) (lo.map (evF ty env 0)) (hi.map (evF ty env 0)) (evF ty env 0 m)).res env h
  | .fieldAddr s x f =>
    (match fieldOf ty s f, evF ty env 0 x with
    | some (off, t), .ref id o => .val (decide (0 < (ty t).size)) (.ref id (o + off)) env h
    | some (off, t), .imm cs => .val (decide (0 < (ty t).size ∧ off + (ty t).size ≤ cs.length)) (.imm (cs.drop off)) env h
    | _, _ => .bad)
  | .field s x f =>
    (match fieldOf ty s f, evF ty env s x with
    | some (off, t), .agg cs => .val (decide (0 < (ty t).size ∧ off + (ty t).size ≤ cs.length)) ((ty t).val ((cs.drop off).take (ty t).size)) env h
    | _, _ => .bad)
  | .indexAddr t x i => (indexAddrX ty t (evF ty env t x) (evF ty env 0 i)).res env h
  | .index t x i => (indexX ty t (evF ty env t x) (evF ty env 0 i)).res env h
  | .extract t i => (match evF ty env 0 t with | .tup vs => (match vs[i]? with | some v => .val (decide True) v env h | none => .bad) | _ => .bad)
  | .call { callee := .builtin b, args, argTypes } => if rwB tk o.dst = true then rowAppX ty b argTypes.toList args.toList env h else builtinX ty b argTypes.toList args.toList env h
  | .call { callee := .value f, args, argTypes } =>
    (match evF ty env 0 f with
    | .func (.func f) first cap => if args.size = argTypes.size ∧ f < 1000000 then .call f (first ++ ((args.toList.zip argTypes.toList).map fun (x, t) => evF ty env t x) ++ cap) else .bad
    | _ => .bad)
  | .panic x => (match evF ty env 0 x with | .iface t v => .pan (.iface t v) | _ => .bad)
  | .typeAssert x _ t ok => (match evF ty env 0 x with
    | .iface t' v => (match (ty t).k with | .iface => .bad | .other => .bad | _ => if t' = t then .val (decide True) (if ok = true then .tup [v, .bool true] else v) env h else .bad)
    | _ => .bad)
  | .insert t m k x => updateX ty t (evF ty env t m) (evF ty env 0 k) (evF ty env (elemOf (ty t).k) x) env h
  | .mapUpdate t m k x => updateX ty t (evF ty env t m) (evF ty env 0 k) (evF ty env (elemOf (ty t).k) x) env h
  | .lookup t m k c => (lookupX ty t c (evF ty env t m) (evF ty env 0 k) h).res env h
  | .range t x => rangeOpX ty t (evF ty env t x) env h
  | .next x true => nextOpX (evF ty env 0 x) env h
  | .next x false => nextMX (evF ty env 0 x) env h
  | .entry x => entryOpX (evF ty env 0 x) env h
  | _ => .bad
end
end
end Go.Proofs.Ytpbnnbjkjaajnaa.Pv
set_option linter.unusedVariables false
set_option linter.unusedSimpArgs false
set_option maxHeartbeats 200000
namespace Go.Proofs.Ytpbnnbjkjaajnaa.Pv
open Go

theorem intOpX_up (op : BinOp) (k : IntKind) (a b : Int) : (intOpX op k a b).up = intOp op k a b := by cases op <;> simp [intOpX, intOp, R1X.up]
theorem shiftOpX_up (op : BinOp) (k : IntKind) (a b : Int) : (shiftOpX op k a b).up = shiftOp op k a b := by cases op <;> simp [shiftOpX, shiftOp, R1X.up]
theorem strOpX_up (op : BinOp) (a b : List UInt8) : (strOpX op a b).up = strOp op a b := by cases op <;> simp [strOpX, strOp, R1X.up]
theorem fltOpX_up (op : BinOp) (k : FloatKind) (a b : Nat) : (fltOpX op k a b).up = fltOp op k a b := by cases op <;> simp [fltOpX, fltOp, R1X.up]
theorem binOpX_up (op : BinOp) (x y : V) : (binOpX op x y).up = binOp op x y := by
  unfold binOpX binOp
  cases x <;> try rfl
  all_goals (cases y <;> try rfl)
  · dsimp only
    by_cases h : isShift op = true
    · rw [if_pos h, if_pos h]; exact shiftOpX_up ..
    · rw [if_neg h, if_neg h]
      split
      · exact intOpX_up ..
      · rfl
  · dsimp only
    split
    · exact fltOpX_up ..
    · rfl
  · exact strOpX_up ..
theorem unOpX_up (op : UnOp) (x : V) : (unOpX op x).up = unOp op x := by
  unfold unOpX unOp
  cases op <;> try rfl
  all_goals (cases x <;> first | rfl | simp [R1X.up])
theorem strOfX_up (p : Bool) (o : Option (List UInt8)) : (strOfX p o).up = strOf (p = true) o := by cases o <;> simp [strOfX, strOf, R1X.up]
theorem toIntX_up (k : IntKind) (x : Option Int) : (toIntX k x).up = toInt k x := by simp [toIntX, toInt, R1X.up]
theorem minVX_up (x y : V) : (minVX x y).up = minV x y := by
  unfold minVX minV
  cases x <;> try rfl
  cases y <;> first | rfl | simp [R1X.up]
theorem maxVX_up (x y : V) : (maxVX x y).up = maxV x y := by
  unfold maxVX maxV
  cases x <;> try rfl
  cases y <;> first | rfl | simp [R1X.up]
theorem cpxVX_up (x y : V) : (cpxVX x y).up = cpxV x y := by
  unfold cpxVX cpxV
  cases x <;> try rfl
  cases y <;> try rfl
  dsimp only
  split <;> simp [R1X.up]
theorem realVX_up (x : V) : (realVX x).up = realV x := by unfold realVX realV; cases x <;> first | rfl | simp [R1X.up]
theorem imagVX_up (x : V) : (imagVX x).up = imagV x := by unfold imagVX imagV; cases x <;> first | rfl | simp [R1X.up]
theorem pickVX_up (c a b : V) : (pickVX c a b).up = pickV c a b := by unfold pickVX pickV; cases c <;> first | rfl | simp [R1X.up]
def upO : Option (Bool × Nat) → Option (Prop × Nat) := Option.map fun (p, n) => (p = true, n)
def upO2 : Option (Bool × Nat × Nat) → Option (Prop × Nat × Nat) := Option.map fun (p, n) => (p = true, n)
theorem hiBX_up (x : Option V) (m : Nat) : upO (hiBX x m) = hiB x m := by
  unfold hiBX hiB
  cases x with
  | none => simp [upO]
  | some v => cases v <;> first | rfl | simp [upO]
theorem loBX_up (x : Option V) (m : Nat) : upO (loBX x m) = loB x m := by
  unfold loBX loB
  cases x with
  | none => simp [upO]
  | some v => cases v <;> first | rfl | simp [upO]
theorem boundsX_up (lo hi : Option V) (len : Nat) : upO2 (boundsX lo hi len) = bounds lo hi len := by
  unfold boundsX bounds
  rw [← hiBX_up]
  cases hiBX hi len with
  | none => rfl
  | some q =>
    obtain ⟨p, m⟩ := q
    simp only [upO, Option.map_some]
    rw [← loBX_up]
    cases loBX lo m with
    | none => rfl
    | some q => simp [upO, upO2]
theorem withBX_up (b : Option (Bool × Nat × Nat)) (f : Nat → Nat → V) (q : Bool) : (withBX b f q).up = withB (upO2 b) f (q = true) := by
  cases b <;> simp [withBX, withB, upO2, R1X.up]
section
variable (ty : Nat → Ty)
theorem binOpTX_up (op : BinOp) (t : Nat) (c : Bool) (x y : V) : (binOpTX ty op t c x y).up = binOpT ty op t c x y := by
  unfold binOpTX binOpT
  cases op <;> try exact binOpX_up ..
  all_goals (generalize (ty t).k = k; cases k <;> try exact binOpX_up ..)
  all_goals (cases x <;> try exact binOpX_up ..)
  all_goals (cases y <;> try exact binOpX_up ..)
  all_goals first | (simp [R1X.up]; done) | (dsimp only; split <;> simp [R1X.up])
theorem convertX_up (a b : Nat) (x : V) (h : H) : (convertX ty a b x h).up = convert ty a b x h := by
  unfold convertX convert
  generalize (ty a).k = ka
  generalize (ty b).k = kb
  cases ka <;> try rfl
  all_goals (cases kb <;> try rfl)
  all_goals (cases x <;> try rfl)
  all_goals first | (simp [R1X.up]; done) | exact toIntX_up .. | (simp only []; split <;> simp [R1X.up]; done) | skip
  · rename_i sz xs
    match sz with
    | 0 => rfl
    | 1 =>
      simp only []
      split
      · rw [strOfX_up]; simp
      · rfl
    | n + 2 => rfl
  · rename_i id off len sz
    match sz with
    | 0 => rfl
    | 1 =>
      simp only []
      split
      · cases H.row h id with
        | none => rfl
        | some cs => simp only []; rw [strOfX_up]; simp
      · rfl
    | n + 2 => rfl
theorem appendX_up (t : Nat) (s x : V) : (appendX ty t s x).up = append ty t s x := by
  unfold appendX append
  generalize (ty t).k = k
  cases k <;> try rfl
  cases s <;> try rfl
  all_goals (cases x <;> first | rfl | simp [R1X.up])
theorem sliceX_up (t : Nat) (x : V) (lo hi : Option V) : (sliceX ty t x lo hi).up = slice ty t x lo hi := by
  unfold sliceX slice
  generalize (ty t).k = k
  cases k <;> try rfl
  all_goals (cases x <;> first | rfl | (simp only []; rw [withBX_up, boundsX_up]; simp only [decide_eq_true_eq]))
theorem slice3X_up (t : Nat) (x : V) (lo hi : Option V) (m : V) : (slice3X ty t x lo hi m).up = slice3 ty t x lo hi m := by
  unfold slice3X slice3
  generalize (ty t).k = k
  cases k <;> try rfl
  cases x <;> try rfl
  cases hi with
  | none => rfl
  | some v =>
    cases v <;> try rfl
    cases m <;> try rfl
    dsimp only
    split
    · simp [withBX_up, boundsX_up]
    · rfl
theorem indexAddrX_up (t : Nat) (x i : V) : (indexAddrX ty t x i).up = indexAddr ty t x i := by
  unfold indexAddrX indexAddr
  generalize (ty t).k = k
  cases k <;> try rfl
  all_goals (cases x <;> try rfl)
  all_goals (cases i <;> first | rfl | simp [R1X.up])
theorem indexX_up (t : Nat) (x i : V) : (indexX ty t x i).up = index ty t x i := by
  unfold indexX index
  generalize (ty t).k = k
  cases k <;> try rfl
  all_goals (cases x <;> try rfl)
  all_goals (cases i <;> first | rfl | simp [R1X.up])
theorem lenVX_up (t : Nat) (x : V) (h : H) : (lenVX ty t x h).up = lenV ty t x h := by
  unfold lenVX lenV
  generalize (ty t).k = k
  cases k <;> first | rfl | (simp [R1X.up]; done) | skip
  all_goals (cases x <;> first | rfl | (simp [R1X.up]; done) | skip)
  rename_i id
  dsimp only
  cases h[id]? with
  | none => rfl
  | some o => cases o <;> first | rfl | simp [R1X.up]
theorem buildOkX_up (t : Nat) : (buildOkX ty t = true) = buildOk ty t := by
  unfold buildOkX buildOk
  cases (ty t).k <;> simp
theorem lookupX_up (t : Nat) (c : Bool) (m k : V) (h : H) : (lookupX ty t c m k h).up = lookup ty t c m k h := by
  unfold lookupX lookup
  generalize (ty t).k = kk
  cases kk <;> try rfl
  cases m <;> try rfl
  all_goals (cases k <;> try rfl)
  · rename_i id s
    dsimp only
    cases h[id]? with
    | none => rfl
    | some o => cases o <;> first | rfl | simp [R1X.up, K.isStr_iff]
  · simp [R1X.up, K.isStr_iff]
def upL : Option (Bool × List V) → Option (Prop × List V) := Option.map fun (p, n) => (p = true, n)
theorem fillX_up (place : Nat → Option (Nat × Nat × Nat)) (env : EnvX) : ∀ (l : List (Nat × Operand)) (p : Bool) (cs : List V), upL (fillX ty place env l p cs) = fill ty place env.toE l (p = true) cs
  | [], p, cs => rfl
  | (i, x) :: rest, p, cs => by
    simp only [fillX, fill, evF_eq]
    cases place i with
    | none => rfl
    | some q => dsimp only; rw [fillX_up place env rest, decide_eq_true_eq]
theorem loadX_up (t : Nat) (tk ln : Bool) (p : V) (env : EnvX) (h : H) : (loadX ty t tk ln p env h).up = load ty t tk ln p env.toE h := by
  unfold loadX load
  cases p <;> first | rfl | (simp [ResX.up]; done) | skip
  rename_i id off
  dsimp only
  cases h.row id with
  | none => rfl
  | some cs =>
    dsimp only
    split
    · simp [ResX.up]
    · split
      · simp [ResX.up]
      · split
        · simp [ResX.up]
        · unfold loadNX loadN
          cases cs.getD off .top <;> simp [ResX.up]
theorem storeX_up (t : Nat) (p x : V) (env : EnvX) (h : H) : (storeX ty t p x env h).up = store ty t p x env.toE h := by
  unfold storeX store
  cases p <;> try rfl
  rename_i id off
  dsimp only
  cases h.row id <;> first | rfl | simp [ResX.up]
theorem cutX_up (t i : Nat) (v : V) (lo hi : Option V) (env : EnvX) (h : H) : (cutX ty t i v lo hi env h).up = cut ty t i v lo hi env.toE h := by
  unfold cutX cut
  generalize (ty t).k = k
  cases k <;> try rfl
  cases v <;> try rfl
  · rename_i e s xs
    cases xs with
    | nil =>
      cases lo with
      | none =>
        dsimp only
        rw [← hiBX_up]
        cases hiBX hi 0 <;> simp [upO, ResX.up, EnvX.put_toE]
      | some l => cases l <;> first | rfl | (cases hi <;> first | rfl | simp [ResX.up, EnvX.put_toE])
    | cons x xs =>
      cases lo with
      | none => rfl
      | some l => cases l <;> first | rfl | (cases hi <;> first | rfl | simp [ResX.up, EnvX.put_toE])
  · cases lo with
    | none =>
      dsimp only
      rw [← hiBX_up]
      cases hiBX hi _ <;> simp [upO, ResX.up, EnvX.put_toE]
    | some l => rfl
theorem sliceNilX_up (op : BinOp) (t : Nat) (c : Bool) (x y : V) (env : EnvX) (h : H) : (sliceNilX ty op t c x y env h).map ResX.up = sliceNil ty op t c x y env.toE h := by
  unfold sliceNilX sliceNil
  cases op <;> try rfl
  all_goals (generalize (ty t).k = k; cases k <;> try rfl)
  all_goals (cases x <;> try rfl)
  all_goals (cases y <;> try rfl)
  all_goals (dsimp only; split <;> simp [ResX.up])
theorem updateX_up (t : Nat) (m k v : V) (env : EnvX) (h : H) : (updateX ty t m k v env h).up = update ty t m k v env.toE h := by
  unfold updateX update
  generalize (ty t).k = kk
  cases kk <;> try rfl
  cases m <;> try rfl
  cases k <;> try rfl
  rename_i id s
  dsimp only
  cases h[id]? with
  | none => rfl
  | some o => cases o <;> first | rfl | simp [ResX.up, K.isStr_iff]
theorem sliceOpX_up (m : Bool) (t : Nat) (x : Operand) (lo hi : Option Operand) (env : EnvX) (h : H) : (sliceOpX ty m t x lo hi env h).up = sliceOp ty m t x lo hi env.toE h := by
  unfold sliceOpX sliceOp
  simp only [evF_eq, getF_eq]
  cases m <;> cases x <;> first | exact cutX_up .. | (dsimp only; rw [R1X.res_up, sliceX_up])
theorem rangeOpX_up (t : Nat) (x : V) (env : EnvX) (h : H) : (rangeOpX ty t x env h).up = rangeOp ty t x env.toE h := by
  unfold rangeOpX rangeOp
  generalize (ty t).k = k
  cases k <;> try rfl
  · cases x <;> first | rfl | simp [ResX.up]
  · cases x <;> try rfl
    rename_i id
    dsimp only
    cases h[id]? with
    | none => rfl
    | some o =>
      cases o <;> try rfl
      dsimp only
      cases keysOf _ <;> simp [ResX.up]
theorem nextMX_up (x : V) (env : EnvX) (h : H) : (nextMX x env h).up = nextM x env.toE h := by
  match x with
  | .ref id 0 =>
    cases hq : h[id]? with
    | none => simp [nextMX, nextM, hq, ResX.up]
    | some o =>
      cases o <;> try (simp [nextMX, nextM, hq, ResX.up]; done)
      rename_i m n left last
      cases hm : h[m]? with
      | none => simp [nextMX, nextM, hq, hm, ResX.up]
      | some o =>
        cases o <;> try (simp [nextMX, nextM, hq, hm, ResX.up]; done)
        rename_i es
        by_cases h1 : es.length = n
        · by_cases h2 : left = []
          · simp [nextMX, nextM, hq, hm, h1, h2, ResX.up]
          · simp [nextMX, nextM, hq, hm, h1, h2, ResX.up]
        · simp [nextMX, nextM, hq, hm, h1, ResX.up]
  | .ref id (n + 1) => rfl
  | .bool _ | .int _ _ | .flt _ _ | .cpx _ _ _ | .str _ | .sl _ _ | .cap _ _ | .slen _ | .own _ _ _ | .pri _ _ _ _ | .raw _ | .nils _ _ | .msl _ _ _ _ | .imm _ | .nilp | .map _ | .nilm | .func _ _ _ | .nilf | .iface _ _ | .nili | .agg _ | .tup _ | .top => rfl
theorem entryOpX_up (x : V) (env : EnvX) (h : H) : (entryOpX x env h).up = entryOp x env.toE h := by
  match x with
  | .ref id 0 =>
    cases hq : h[id]? with
    | none => simp [entryOpX, entryOp, hq, ResX.up]
    | some o =>
      cases o <;> try (simp [entryOpX, entryOp, hq, ResX.up]; done)
      rename_i m n left last
      cases last with
      | none => simp [entryOpX, entryOp, hq, ResX.up]
      | some k =>
        cases hm : h[m]? with
        | none => simp [entryOpX, entryOp, hq, hm, ResX.up]
        | some o =>
          cases o <;> try (simp [entryOpX, entryOp, hq, hm, ResX.up]; done)
          rename_i es
          by_cases h1 : es.length = n
          · simp [entryOpX, entryOp, hq, hm, h1, ResX.up]
          · simp [entryOpX, entryOp, hq, hm, h1, ResX.up]
  | .ref id (n + 1) => rfl
  | .bool _ | .int _ _ | .flt _ _ | .cpx _ _ _ | .str _ | .sl _ _ | .cap _ _ | .slen _ | .own _ _ _ | .pri _ _ _ _ | .raw _ | .nils _ _ | .msl _ _ _ _ | .imm _ | .nilp | .map _ | .nilm | .func _ _ _ | .nilf | .iface _ _ | .nili | .agg _ | .tup _ | .top => rfl
theorem nextOpX_up (x : V) (env : EnvX) (h : H) : (nextOpX x env h).up = nextOp x env.toE h := by
  match x with
  | .ref id 0 =>
    cases hq : h[id]? with
    | none => simp [nextOpX, nextOp, hq, ResX.up]
    | some o => cases o <;> simp [nextOpX, nextOp, hq, ResX.up]
  | .ref id (n + 1) => rfl
  | .bool _ | .int _ _ | .flt _ _ | .cpx _ _ _ | .str _ | .sl _ _ | .cap _ _ | .slen _ | .own _ _ _ | .pri _ _ _ _ | .raw _ | .nils _ _ | .msl _ _ _ _ | .imm _ | .nilp | .map _ | .nilm | .func _ _ _ | .nilf | .iface _ _ | .nili | .agg _ | .tup _ | .top => rfl
theorem rowAppX_up (b : Builtin) (ts : List Nat) (xs : List Operand) (env : EnvX) (h : H) : (rowAppX ty b ts xs env h).up = rowApp ty b ts xs env.toE h := by
  unfold rowAppX rowApp
  simp only [evF_eq, getF_eq]
  cases b <;> try rfl
  cases ts with
  | nil => rfl
  | cons t ts => cases ts with
    | nil => rfl
    | cons t' ts => cases ts with
      | cons _ _ => rfl
      | nil => cases xs with
        | nil => rfl
        | cons x xs => cases xs with
          | nil => cases x <;> rfl
          | cons y xs => cases xs with
            | cons _ _ => cases x <;> rfl
            | nil =>
              cases x <;> try rfl
              rename_i s
              dsimp only
              cases (ty t).k <;> try rfl
              cases env.toE.get s <;> try rfl
              cases ev ty env.toE t y <;> try rfl
              dsimp only
              split <;> simp [ResX.up]
theorem builtinX_up (b : Builtin) (ts : List Nat) (xs : List Operand) (env : EnvX) (h : H) : (builtinX ty b ts xs env h).up = builtin ty b ts xs env.toE h := by
  unfold builtinX builtin
  simp only [evF_eq, getF_eq]
  cases b <;> try rfl
  all_goals (cases ts with | nil => rfl | cons t ts => ?_)
  all_goals (cases ts with | nil => ?_ | cons t' ts => ?_)
  all_goals first
    | rfl
    | (cases xs with
        | nil => rfl
        | cons x xs => (cases xs with
          | nil => first | rfl | (dsimp only; rw [R1X.res_up]; first | rw [lenVX_up] | rw [realVX_up] | rw [imagVX_up]) | (cases x <;> rfl)
          | cons y xs => first | rfl | (cases x <;> rfl)))
    | (cases ts with
        | cons t2 ts => first | rfl | (cases xs with | nil => rfl | cons x xs => (cases x <;> rfl))
        | nil => (cases xs with
          | nil => rfl
          | cons x xs => (cases xs with
            | nil => first | rfl | (cases x <;> rfl)
            | cons y xs => (cases xs with
              | cons z xs => first | rfl | (cases x <;> rfl)
              | nil => first
                | (dsimp only; rw [R1X.res_up]; first | rw [minVX_up] | rw [maxVX_up] | rw [cpxVX_up])
                | (cases x <;> first | rfl | (dsimp only; split <;> first | rfl | (rw [R1X.res_up, appendX_up, EnvX.put_toE]) | (rw [R1X.res_up, appendX_up])))))))
end
end Go.Proofs.Ytpbnnbjkjaajnaa.Pv
set_option linter.unusedVariables false
set_option linter.unusedSimpArgs false
set_option maxHeartbeats 1000000
namespace Go.Proofs.Ytpbnnbjkjaajnaa.Pv
open Go
section
variable (ty : Nat → Ty)
theorem aopX_up (tk : List Nat) (o : Oper) (env : EnvX) (h : H) : (aopX ty tk o env h).up = aop ty tk o env.toE h := by
  unfold aopX aop
  simp only [evF_eq, getF_eq]
  generalize o.op = q
  cases q <;> try rfl
  case load t a => exact loadX_up ..
  case store t a x => cases x <;> exact storeX_up ..
  case insert t m k x => exact updateX_up ..
  case mapUpdate t m k x => exact updateX_up ..
  case range t x => exact rangeOpX_up ..
  case entry x => exact entryOpX_up ..
  case next x b => cases b <;> first | exact nextOpX_up .. | exact nextMX_up ..
  case pick c a b => simp only []; rw [R1X.res_up, pickVX_up]
  case unOp op t x => simp only []; rw [R1X.res_up, unOpX_up]
  case convert s d x => simp only []; rw [R1X.res_up, convertX_up]
  case indexAddr t x i => simp only []; rw [R1X.res_up, indexAddrX_up]
  case index t x i => simp only []; rw [R1X.res_up, indexX_up]
  case lookup t m k c => simp only []; rw [R1X.res_up, lookupX_up]
  case slice t x lo hi mx =>
    cases mx with
    | none => exact sliceOpX_up ..
    | some m => simp only []; rw [R1X.res_up, slice3X_up]
  case binOp op t x y t' =>
    simp only []
    rw [← sliceNilX_up]
    cases sliceNilX ty op t _ _ _ env h with
    | none => simp only [Option.map_none, Option.getD_none]; rw [R1X.res_up, binOpTX_up]
    | some r => rfl
  case move x =>
    cases x <;> first
      | (simp [ResX.up, EnvX.put_toE]; done)
      | (simp only []; split <;> simp [ResX.up, EnvX.put_toE])
  case assign x =>
    cases x <;> first
      | (simp [ResX.up, EnvX.put_toE]; done)
      | (simp only []; split <;> simp [ResX.up, EnvX.put_toE])
  case alloc t => simp [ResX.up, EnvX.put_toE]
  case box t x => simp [ResX.up, EnvX.put_toE]
  case build t parts =>
    simp only []
    rw [← buildOkX_up]
    have := fillX_up ty (placeOf ty t) env parts.toList (decide (buildOkX ty t = true ∧ 0 < (ty t).size ∧ (ty t).zero.all V.plain = true)) (ty t).zero
    rw [decide_eq_true_eq] at this
    rw [← this]
    cases fillX ty (placeOf ty t) env parts.toList _ (ty t).zero <;> simp [upL, ResX.up, EnvX.put_toE]
  case buildSlice t n parts =>
    simp only []
    cases (ty t).k <;> try rfl
    rename_i el
    simp only []
    have := fillX_up ty (placeOf ty t) env parts.toList (decide (n * (ty el).size ≤ 16777216 ∧ 0 < (ty el).size ∧ (ty el).zero.all V.plain = true)) (repl (ty el).zero n)
    rw [decide_eq_true_eq] at this
    rw [← this]
    cases fillX ty (placeOf ty t) env parts.toList _ (repl (ty el).zero n) <;> simp [upL, ResX.up, EnvX.put_toE]
  case nilCheck x => simp only []; cases ev ty env.toE 0 x <;> simp [ResX.up, EnvX.put_toE]
  case makeInterface t x => simp only []; cases (ty t).k <;> simp [ResX.up, EnvX.put_toE]
  case makeFunc f fs cs => cases f <;> simp [ResX.up, EnvX.put_toE]
  case makeMap t x => cases x <;> simp [ResX.up, EnvX.put_toE]
  case makeSlice t l c =>
    simp only []
    cases (ty t).k <;> try rfl
    cases ev ty env.toE 0 l <;> try rfl
    cases ev ty env.toE 0 c <;> first | rfl | simp [ResX.up, EnvX.put_toE]
  case fieldAddr s x f =>
    simp only []
    cases fieldOf ty s f with
    | none => rfl
    | some q => cases ev ty env.toE 0 x <;> first | rfl | simp [ResX.up, EnvX.put_toE]
  case field s x f =>
    simp only []
    cases fieldOf ty s f with
    | none => rfl
    | some q => cases ev ty env.toE s x <;> first | rfl | simp [ResX.up, EnvX.put_toE]
  case extract t i =>
    simp only []
    cases ev ty env.toE 0 t <;> try rfl
    rename_i vs
    simp only []
    cases vs[i]? <;> simp [ResX.up, EnvX.put_toE]
  case panic x => simp only []; cases ev ty env.toE 0 x <;> simp [ResX.up, EnvX.put_toE]
  case typeAssert x a t ok =>
    simp only []
    cases ev ty env.toE 0 x <;> try rfl
    simp only []
    cases (ty t).k <;> first | rfl | (simp only []; split <;> simp [ResX.up, EnvX.put_toE])
  case call c =>
    obtain ⟨cal, args, ts⟩ := c
    cases cal <;> try rfl
    · simp only []
      cases ev ty env.toE 0 _ <;> try rfl
      rename_i fn fs cs
      cases fn <;> first | rfl | (simp only []; split <;> rfl)
    · simp only []
      split
      · exact rowAppX_up ..
      · exact builtinX_up ..
end
end Go.Proofs.Ytpbnnbjkjaajnaa.Pv
