/- The operations with Booleans say the same as those with conditions. -/
import Derived.Test.YtpbnnbjkjaajnaaPxA
set_option linter.unusedVariables false
set_option linter.unusedSimpArgs false
set_option maxHeartbeats 200000
namespace Go.Proofs.Ytpbnnbjkjaajnaa.Pv
open Go

theorem intOpX_up (op : BinOp) (k : IntKind) (a b : Int) : (intOpX op k a b).up = intOp op k a b := by cases op <;> simp [intOpX, intOp, R1X.up]
theorem shiftOpX_up (op : BinOp) (k : IntKind) (a b : Int) : (shiftOpX op k a b).up = shiftOp op k a b := by cases op <;> simp [shiftOpX, shiftOp, R1X.up]
theorem strOpX_up (op : BinOp) (a b : List UInt8) : (strOpX op a b).up = strOp op a b := by cases op <;> simp [strOpX, strOp, R1X.up]
theorem fltOpX_up (op : BinOp) (k : FloatKind) (a b : Nat) : (fltOpX op k a b).up = fltOp op k a b := by cases op <;> simp [fltOpX, fltOp, R1X.up]
theorem binOpX_up (op : BinOp) (x y : V) : (binOpX op x y).up = binOp op x y := by
  unfold binOpX binOp
  cases x <;> try rfl
  all_goals (cases y <;> try rfl)
  · dsimp only
    by_cases h : isShift op = true
    · rw [if_pos h, if_pos h]; exact shiftOpX_up ..
    · rw [if_neg h, if_neg h]
      split
      · exact intOpX_up ..
      · rfl
  · dsimp only
    split
    · exact fltOpX_up ..
    · rfl
  · exact strOpX_up ..
theorem unOpX_up (op : UnOp) (x : V) : (unOpX op x).up = unOp op x := by
  unfold unOpX unOp
  cases op <;> try rfl
  all_goals (cases x <;> first | rfl | simp [R1X.up])
theorem strOfX_up (p : Bool) (o : Option (List UInt8)) : (strOfX p o).up = strOf (p = true) o := by cases o <;> simp [strOfX, strOf, R1X.up]
theorem toIntX_up (k : IntKind) (x : Option Int) : (toIntX k x).up = toInt k x := by simp [toIntX, toInt, R1X.up]
theorem minVX_up (x y : V) : (minVX x y).up = minV x y := by
  unfold minVX minV
  cases x <;> try rfl
  cases y <;> first | rfl | simp [R1X.up]
theorem maxVX_up (x y : V) : (maxVX x y).up = maxV x y := by
  unfold maxVX maxV
  cases x <;> try rfl
  cases y <;> first | rfl | simp [R1X.up]
theorem cpxVX_up (x y : V) : (cpxVX x y).up = cpxV x y := by
  unfold cpxVX cpxV
  cases x <;> try rfl
  cases y <;> try rfl
  dsimp only
  split <;> simp [R1X.up]
theorem realVX_up (x : V) : (realVX x).up = realV x := by unfold realVX realV; cases x <;> first | rfl | simp [R1X.up]
theorem imagVX_up (x : V) : (imagVX x).up = imagV x := by unfold imagVX imagV; cases x <;> first | rfl | simp [R1X.up]
theorem pickVX_up (c a b : V) : (pickVX c a b).up = pickV c a b := by unfold pickVX pickV; cases c <;> first | rfl | simp [R1X.up]
def upO : Option (Bool × Nat) → Option (Prop × Nat) := Option.map fun (p, n) => (p = true, n)
def upO2 : Option (Bool × Nat × Nat) → Option (Prop × Nat × Nat) := Option.map fun (p, n) => (p = true, n)
theorem hiBX_up (x : Option V) (m : Nat) : upO (hiBX x m) = hiB x m := by
  unfold hiBX hiB
  cases x with
  | none => simp [upO]
  | some v => cases v <;> first | rfl | simp [upO]
theorem loBX_up (x : Option V) (m : Nat) : upO (loBX x m) = loB x m := by
  unfold loBX loB
  cases x with
  | none => simp [upO]
  | some v => cases v <;> first | rfl | simp [upO]
theorem boundsX_up (lo hi : Option V) (len : Nat) : upO2 (boundsX lo hi len) = bounds lo hi len := by
  unfold boundsX bounds
  rw [← hiBX_up]
  cases hiBX hi len with
  | none => rfl
  | some q =>
    obtain ⟨p, m⟩ := q
    simp only [upO, Option.map_some]
    rw [← loBX_up]
    cases loBX lo m with
    | none => rfl
    | some q => simp [upO, upO2]
theorem withBX_up (b : Option (Bool × Nat × Nat)) (f : Nat → Nat → V) (q : Bool) : (withBX b f q).up = withB (upO2 b) f (q = true) := by
  cases b <;> simp [withBX, withB, upO2, R1X.up]
section
variable (ty : Nat → Ty)
theorem binOpTX_up (op : BinOp) (t : Nat) (c : Bool) (x y : V) : (binOpTX ty op t c x y).up = binOpT ty op t c x y := by
  unfold binOpTX binOpT
  cases op <;> try exact binOpX_up ..
  all_goals (generalize (ty t).k = k; cases k <;> try exact binOpX_up ..)
  all_goals (cases x <;> try exact binOpX_up ..)
  all_goals (cases y <;> try exact binOpX_up ..)
  all_goals first | (simp [R1X.up]; done) | (dsimp only; split <;> simp [R1X.up])
theorem convertX_up (a b : Nat) (x : V) (h : H) : (convertX ty a b x h).up = convert ty a b x h := by
  unfold convertX convert
  generalize (ty a).k = ka
  generalize (ty b).k = kb
  cases ka <;> try rfl
  all_goals (cases kb <;> try rfl)
  all_goals (cases x <;> try rfl)
  all_goals first | (simp [R1X.up]; done) | exact toIntX_up .. | (simp only []; split <;> simp [R1X.up]; done) | skip
  · rename_i sz xs
    match sz with
    | 0 => rfl
    | 1 =>
      simp only []
      split
      · rw [strOfX_up]; simp
      · rfl
    | n + 2 => rfl
  · rename_i id off len sz
    match sz with
    | 0 => rfl
    | 1 =>
      simp only []
      split
      · cases H.row h id with
        | none => rfl
        | some cs => simp only []; rw [strOfX_up]; simp
      · rfl
    | n + 2 => rfl
theorem appendX_up (t : Nat) (s x : V) : (appendX ty t s x).up = append ty t s x := by
  unfold appendX append
  generalize (ty t).k = k
  cases k <;> try rfl
  cases s <;> try rfl
  all_goals (cases x <;> first | rfl | simp [R1X.up])
theorem sliceX_up (t : Nat) (x : V) (lo hi : Option V) : (sliceX ty t x lo hi).up = slice ty t x lo hi := by
  unfold sliceX slice
  generalize (ty t).k = k
  cases k <;> try rfl
  all_goals (cases x <;> first | rfl | (simp only []; rw [withBX_up, boundsX_up]; simp only [decide_eq_true_eq]))
theorem slice3X_up (t : Nat) (x : V) (lo hi : Option V) (m : V) : (slice3X ty t x lo hi m).up = slice3 ty t x lo hi m := by
  unfold slice3X slice3
  generalize (ty t).k = k
  cases k <;> try rfl
  cases x <;> try rfl
  cases hi with
  | none => rfl
  | some v =>
    cases v <;> try rfl
    cases m <;> try rfl
    dsimp only
    split
    · simp [withBX_up, boundsX_up]
    · rfl
theorem indexAddrX_up (t : Nat) (x i : V) : (indexAddrX ty t x i).up = indexAddr ty t x i := by
  unfold indexAddrX indexAddr
  generalize (ty t).k = k
  cases k <;> try rfl
  all_goals (cases x <;> try rfl)
  all_goals (cases i <;> first | rfl | simp [R1X.up])
theorem indexX_up (t : Nat) (x i : V) : (indexX ty t x i).up = index ty t x i := by
  unfold indexX index
  generalize (ty t).k = k
  cases k <;> try rfl
  all_goals (cases x <;> try rfl)
  all_goals (cases i <;> first | rfl | simp [R1X.up])
theorem lenVX_up (t : Nat) (x : V) (h : H) : (lenVX ty t x h).up = lenV ty t x h := by
  unfold lenVX lenV
  generalize (ty t).k = k
  cases k <;> first | rfl | (simp [R1X.up]; done) | skip
  all_goals (cases x <;> first | rfl | (simp [R1X.up]; done) | skip)
  rename_i id
  dsimp only
  cases h[id]? with
  | none => rfl
  | some o => cases o <;> first | rfl | simp [R1X.up]
theorem buildOkX_up (t : Nat) : (buildOkX ty t = true) = buildOk ty t := by
  unfold buildOkX buildOk
  cases (ty t).k <;> simp
theorem lookupX_up (t : Nat) (c : Bool) (m k : V) (h : H) : (lookupX ty t c m k h).up = lookup ty t c m k h := by
  unfold lookupX lookup
  generalize (ty t).k = kk
  cases kk <;> try rfl
  cases m <;> try rfl
  all_goals (cases k <;> try rfl)
  · rename_i id s
    dsimp only
    cases h[id]? with
    | none => rfl
    | some o => cases o <;> first | rfl | simp [R1X.up, K.isStr_iff]
  · simp [R1X.up, K.isStr_iff]
def upL : Option (Bool × List V) → Option (Prop × List V) := Option.map fun (p, n) => (p = true, n)
theorem fillX_up (place : Nat → Option (Nat × Nat × Nat)) (env : EnvX) : ∀ (l : List (Nat × Operand)) (p : Bool) (cs : List V), upL (fillX ty place env l p cs) = fill ty place env.toE l (p = true) cs
  | [], p, cs => rfl
  | (i, x) :: rest, p, cs => by
    simp only [fillX, fill, evF_eq]
    cases place i with
    | none => rfl
    | some q => dsimp only; rw [fillX_up place env rest, decide_eq_true_eq]
theorem loadX_up (t : Nat) (tk ln : Bool) (p : V) (env : EnvX) (h : H) : (loadX ty t tk ln p env h).up = load ty t tk ln p env.toE h := by
  unfold loadX load
  cases p <;> first | rfl | (simp [ResX.up]; done) | skip
  rename_i id off
  dsimp only
  cases h.row id with
  | none => rfl
  | some cs =>
    dsimp only
    split
    · simp [ResX.up]
    · split
      · simp [ResX.up]
      · split
        · simp [ResX.up]
        · unfold loadNX loadN
          cases cs.getD off .top <;> simp [ResX.up]
theorem storeX_up (t : Nat) (p x : V) (env : EnvX) (h : H) : (storeX ty t p x env h).up = store ty t p x env.toE h := by
  unfold storeX store
  cases p <;> try rfl
  rename_i id off
  dsimp only
  cases h.row id <;> first | rfl | simp [ResX.up]
theorem cutX_up (t i : Nat) (v : V) (lo hi : Option V) (env : EnvX) (h : H) : (cutX ty t i v lo hi env h).up = cut ty t i v lo hi env.toE h := by
  unfold cutX cut
  generalize (ty t).k = k
  cases k <;> try rfl
  cases v <;> try rfl
  · rename_i e s xs
    cases xs with
    | nil =>
      cases lo with
      | none =>
        dsimp only
        rw [← hiBX_up]
        cases hiBX hi 0 <;> simp [upO, ResX.up, EnvX.put_toE]
      | some l => cases l <;> first | rfl | (cases hi <;> first | rfl | simp [ResX.up, EnvX.put_toE])
    | cons x xs =>
      cases lo with
      | none => rfl
      | some l => cases l <;> first | rfl | (cases hi <;> first | rfl | simp [ResX.up, EnvX.put_toE])
  · cases lo with
    | none =>
      dsimp only
      rw [← hiBX_up]
      cases hiBX hi _ <;> simp [upO, ResX.up, EnvX.put_toE]
    | some l => rfl
theorem sliceNilX_up (op : BinOp) (t : Nat) (c : Bool) (x y : V) (env : EnvX) (h : H) : (sliceNilX ty op t c x y env h).map ResX.up = sliceNil ty op t c x y env.toE h := by
  unfold sliceNilX sliceNil
  cases op <;> try rfl
  all_goals (generalize (ty t).k = k; cases k <;> try rfl)
  all_goals (cases x <;> try rfl)
  all_goals (cases y <;> try rfl)
  all_goals (dsimp only; split <;> simp [ResX.up])
theorem updateX_up (t : Nat) (m k v : V) (env : EnvX) (h : H) : (updateX ty t m k v env h).up = update ty t m k v env.toE h := by
  unfold updateX update
  generalize (ty t).k = kk
  cases kk <;> try rfl
  cases m <;> try rfl
  cases k <;> try rfl
  rename_i id s
  dsimp only
  cases h[id]? with
  | none => rfl
  | some o => cases o <;> first | rfl | simp [ResX.up, K.isStr_iff]
theorem sliceOpX_up (m : Bool) (t : Nat) (x : Operand) (lo hi : Option Operand) (env : EnvX) (h : H) : (sliceOpX ty m t x lo hi env h).up = sliceOp ty m t x lo hi env.toE h := by
  unfold sliceOpX sliceOp
  simp only [evF_eq, getF_eq]
  cases m <;> cases x <;> first | exact cutX_up .. | (dsimp only; rw [R1X.res_up, sliceX_up])
theorem rangeOpX_up (t : Nat) (x : V) (env : EnvX) (h : H) : (rangeOpX ty t x env h).up = rangeOp ty t x env.toE h := by
  unfold rangeOpX rangeOp
  generalize (ty t).k = k
  cases k <;> try rfl
  · cases x <;> first | rfl | simp [ResX.up]
  · cases x <;> try rfl
    rename_i id
    dsimp only
    cases h[id]? with
    | none => rfl
    | some o =>
      cases o <;> try rfl
      dsimp only
      cases keysOf _ <;> simp [ResX.up]
theorem nextMX_up (x : V) (env : EnvX) (h : H) : (nextMX x env h).up = nextM x env.toE h := by
  match x with
  | .ref id 0 =>
    cases hq : h[id]? with
    | none => simp [nextMX, nextM, hq, ResX.up]
    | some o =>
      cases o <;> try (simp [nextMX, nextM, hq, ResX.up]; done)
      rename_i m n left last
      cases hm : h[m]? with
      | none => simp [nextMX, nextM, hq, hm, ResX.up]
      | some o =>
        cases o <;> try (simp [nextMX, nextM, hq, hm, ResX.up]; done)
        rename_i es
        by_cases h1 : es.length = n
        · by_cases h2 : left = []
          · simp [nextMX, nextM, hq, hm, h1, h2, ResX.up]
          · simp [nextMX, nextM, hq, hm, h1, h2, ResX.up]
        · simp [nextMX, nextM, hq, hm, h1, ResX.up]
  | .ref id (n + 1) => rfl
  | .bool _ | .int _ _ | .flt _ _ | .cpx _ _ _ | .str _ | .sl _ _ | .cap _ _ | .slen _ | .own _ _ _ | .pri _ _ _ _ | .raw _ | .nils _ _ | .msl _ _ _ _ | .imm _ | .nilp | .map _ | .nilm | .func _ _ _ | .nilf | .iface _ _ | .nili | .agg _ | .tup _ | .top => rfl
theorem entryOpX_up (x : V) (env : EnvX) (h : H) : (entryOpX x env h).up = entryOp x env.toE h := by
  match x with
  | .ref id 0 =>
    cases hq : h[id]? with
    | none => simp [entryOpX, entryOp, hq, ResX.up]
    | some o =>
      cases o <;> try (simp [entryOpX, entryOp, hq, ResX.up]; done)
      rename_i m n left last
      cases last with
      | none => simp [entryOpX, entryOp, hq, ResX.up]
      | some k =>
        cases hm : h[m]? with
        | none => simp [entryOpX, entryOp, hq, hm, ResX.up]
        | some o =>
          cases o <;> try (simp [entryOpX, entryOp, hq, hm, ResX.up]; done)
          rename_i es
          by_cases h1 : es.length = n
          · simp [entryOpX, entryOp, hq, hm, h1, ResX.up]
          · simp [entryOpX, entryOp, hq, hm, h1, ResX.up]
  | .ref id (n + 1) => rfl
  | .bool _ | .int _ _ | .flt _ _ | .cpx _ _ _ | .str _ | .sl _ _ | .cap _ _ | .slen _ | .own _ _ _ | .pri _ _ _ _ | .raw _ | .nils _ _ | .msl _ _ _ _ | .imm _ | .nilp | .map _ | .nilm | .func _ _ _ | .nilf | .iface _ _ | .nili | .agg _ | .tup _ | .top => rfl
theorem nextOpX_up (x : V) (env : EnvX) (h : H) : (nextOpX x env h).up = nextOp x env.toE h := by
  match x with
  | .ref id 0 =>
    cases hq : h[id]? with
    | none => simp [nextOpX, nextOp, hq, ResX.up]
    | some o => cases o <;> simp [nextOpX, nextOp, hq, ResX.up]
  | .ref id (n + 1) => rfl
  | .bool _ | .int _ _ | .flt _ _ | .cpx _ _ _ | .str _ | .sl _ _ | .cap _ _ | .slen _ | .own _ _ _ | .pri _ _ _ _ | .raw _ | .nils _ _ | .msl _ _ _ _ | .imm _ | .nilp | .map _ | .nilm | .func _ _ _ | .nilf | .iface _ _ | .nili | .agg _ | .tup _ | .top => rfl
theorem rowAppX_up (b : Builtin) (ts : List Nat) (xs : List Operand) (env : EnvX) (h : H) : (rowAppX ty b ts xs env h).up = rowApp ty b ts xs env.toE h := by
  unfold rowAppX rowApp
  simp only [evF_eq, getF_eq]
  cases b <;> try rfl
  cases ts with
  | nil => rfl
  | cons t ts => cases ts with
    | nil => rfl
    | cons t' ts => cases ts with
      | cons _ _ => rfl
      | nil => cases xs with
        | nil => rfl
        | cons x xs => cases xs with
          | nil => cases x <;> rfl
          | cons y xs => cases xs with
            | cons _ _ => cases x <;> rfl
            | nil =>
              cases x <;> try rfl
              rename_i s
              dsimp only
              cases (ty t).k <;> try rfl
              cases env.toE.get s <;> try rfl
              cases ev ty env.toE t y <;> try rfl
              dsimp only
              split <;> simp [ResX.up]
theorem builtinX_up (b : Builtin) (ts : List Nat) (xs : List Operand) (env : EnvX) (h : H) : (builtinX ty b ts xs env h).up = builtin ty b ts xs env.toE h := by
  unfold builtinX builtin
  simp only [evF_eq, getF_eq]
  cases b <;> try rfl
  all_goals (cases ts with | nil => rfl | cons t ts => ?_)
  all_goals (cases ts with | nil => ?_ | cons t' ts => ?_)
  all_goals first
    | rfl
    | (cases xs with
        | nil => rfl
        | cons x xs => (cases xs with
          | nil => first | rfl | (dsimp only; rw [R1X.res_up]; first | rw [lenVX_up] | rw [realVX_up] | rw [imagVX_up]) | (cases x <;> rfl)
          | cons y xs => first | rfl | (cases x <;> rfl)))
    | (cases ts with
        | cons t2 ts => first | rfl | (cases xs with | nil => rfl | cons x xs => (cases x <;> rfl))
        | nil => (cases xs with
          | nil => rfl
          | cons x xs => (cases xs with
            | nil => first | rfl | (cases x <;> rfl)
            | cons y xs => (cases xs with
              | cons z xs => first | rfl | (cases x <;> rfl)
              | nil => first
                | (dsimp only; rw [R1X.res_up]; first | rw [minVX_up] | rw [maxVX_up] | rw [cpxVX_up])
                | (cases x <;> first | rfl | (dsimp only; split <;> first | rfl | (rw [R1X.res_up, appendX_up, EnvX.put_toE]) | (rw [R1X.res_up, appendX_up])))))))
end
end Go.Proofs.Ytpbnnbjkjaajnaa.Pv
