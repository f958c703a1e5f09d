/- The pure evaluator, part D: operations that make or write no memory are as the model's. -/
import Derived.Test.YtmjohmefhikelaaDoorPwC
import Derived.Laws.World
import Derived.Laws.Strings
set_option linter.unusedVariables false
set_option linter.unusedSimpArgs false
namespace Go.Proofs.YtmjohmefhikelaaDoor.Pv
open Go
variable [DS]

/-! ### The table of types -/
def KOK (P : Program) (t : Nat) : K → Prop
  | .int k => P.underlying t = some (.int k)
  | .bool => P.underlying t = some .bool
  | .str => P.underlying t = some .string
  | .flt k => P.underlying t = some (.float k)
  | .cpx k => P.underlying t = some (.complex k)
  | .slice e => P.underlying t = some (.slice e)
  | .ptr e => P.underlying t = some (.pointer e)
  | .arr n e => P.underlying t = some (.array n e)
  | .map k e => P.underlying t = some (.map k e)
  | .struct fs => ∃ F : Array Field, P.underlying t = some (.struct F) ∧ F.toList.map (fun f => (f.offset, f.type)) = fs
  | .func => ∃ a b c, P.underlying t = some (.func a b c)
  | .iface => ∃ ms, P.underlying t = some (.interface ms)
  | .other => True

def zm : V → Value → Bool
  | .bool a, .bool b => a == b
  | .int k a, .int k' b => k == k' && a == b
  | .flt k a, .float k' b => k == k' && a == b
  | .cpx k a c, .complex k' b e => k == k' && a == b && c == e
  | .str l, .string s => l == s.data.toList
  | .nils _ _, .slice none 0 0 => true
  | .nilp, .pointer none => true
  | .nilm, .map none => true
  | .nilf, .nilFunc => true
  | .nili, .nilIface => true
  | _, _ => false
def zms : List V → List Value → Bool
  | [], [] => true
  | v :: vs, u :: us => zm v u && zms vs us
  | _, _ => false

structure TyOK (P : Program) (t : Nat) (e : Ty) : Prop where
  k : KOK P t e.k
  info : match e.k with
    | .other => e.size = 0
    | _ => ∃ i z, P.info? t = some i ∧ i.size = e.size ∧ i.bytes = e.bytes ∧ i.zero = some z ∧ zms e.zero z.cells.toList = true ∧ e.zero.length = e.size ∧ (match z with | .agg _ => true | _ => false) = e.agg

omit [DS] in
theorem zm_rel {w : World} {F : Nat → Nat} {ι : List Nat} {v : V} {u : Value} (h : zm v u = true) : VRel w F ι v u := by
  unfold zm at h
  split at h <;> simp only [Bool.and_eq_true, beq_iff_eq, Bool.false_eq_true] at h
  · subst h; exact .bool _
  · obtain ⟨rfl, rfl⟩ := h; exact .int _ _
  · obtain ⟨rfl, rfl⟩ := h; exact .flt _ _
  · obtain ⟨⟨rfl, rfl⟩, rfl⟩ := h; exact .cpx _ _ _
  · exact .str _ _ h.symm
  · exact .nils _ _
  · exact .nilp
  · exact .nilm
  · exact .nilf
  · exact .nili
omit [DS] in
theorem zms_rel {w : World} {F : Nat → Nat} {ι : List Nat} : ∀ {vs : List V} {us : List Value} (_ : zms vs us = true), LRel w F ι vs us
  | [], [], _ => LRel.nil
  | [], _ :: _, h => by simp [zms] at h
  | _ :: _, [], h => by simp [zms] at h
  | v :: vs, u :: us, h => by
    simp only [zms, Bool.and_eq_true] at h
    exact LRel.cons (zm_rel h.1) (zms_rel h.2)

section
variable {P : Program} {ty : Nat → Ty} (hty : ∀ t, TyOK P t (ty t))
include hty

omit [DS] in
theorem TyOK.get {t : Nat} (h : 0 < (ty t).size) : ∃ i z, P.info? t = some i ∧ i.size = (ty t).size ∧ i.bytes = (ty t).bytes ∧ i.zero = some z ∧ zms (ty t).zero z.cells.toList = true ∧
    (ty t).zero.length = (ty t).size ∧ (match z with | .agg _ => true | _ => false) = (ty t).agg := by
  have := (hty t).info
  split at this
  · omega
  · exact this

omit [DS] in
theorem run_sizeOf' {t : Nat} (h : 0 < (ty t).size) (w : World) : (sizeOf t).run P w = .ok (ty t).size w := by
  obtain ⟨i, z, hi, hs, _⟩ := TyOK.get hty h
  simp [sizeOf, typeInfo, hi, hs]

omit hty in
omit [DS] in
theorem und {t : Nat} {d : TypeDesc} (h : P.underlying t = some d) (w : World) : (underlying t).run P w = .ok d w := by
  simp [underlying, h]

omit [DS] in
theorem run_isAgg {t : Nat} (h : 0 < (ty t).size) (w : World) : (isAgg t).run P w = .ok (ty t).agg w := by
  have hk := (hty t).k
  have hi := (hty t).info
  unfold Ty.agg
  cases hc : (ty t).k <;> rw [hc] at hk hi <;> simp only [KOK] at hk
  case other => omega
  case struct fs => obtain ⟨F, hF, _⟩ := hk; simp [isAgg, underlying, hF]
  case func => obtain ⟨a, b, c, hF⟩ := hk; simp [isAgg, underlying, hF]
  case iface => obtain ⟨a, hF⟩ := hk; simp [isAgg, underlying, hF]
  all_goals simp [isAgg, underlying, hk]
end

/-! ### What an operand is -/
omit [DS] in
theorem nilSlice_rel {ty : Nat → Ty} {w : World} {F : Nat → Nat} {ι : List Nat} {t : Nat} : VRel w F ι (nilSlice ty t) (.slice none 0 0) := by
  unfold nilSlice
  split
  · exact .nils _ _
  · exact .top _

omit [DS] in
theorem constC_rel {w : World} {F : Nat → Nat} {ι : List Nat} {z : V} (u : Value) : VRel w F ι (constC z u) u := by
  unfold constC
  split
  · exact .bool _
  · exact .int _ _
  · exact .flt _ _
  · exact .str _ _ rfl
  · exact .nilp
  · split
    · exact .nils _ _
    · exact .top _
  · exact .nilm
  · exact .nilf
  · exact .nili
  · exact .top _
omit [DS] in
theorem constV_rel {ty : Nat → Ty} {w : World} {F : Nat → Nat} {ι : List Nat} {t : Nat} (u : Value) : VRel w F ι (constV ty t u) u := by
  unfold constV
  split
  · rename_i ca
    split
    · rename_i hl
      refine .agg _ ca (by simp [hl]) fun k c u hc hu => ?_
      rw [List.getElem?_zipWith] at hc
      have hu2 : ca.toList[k]? = some u := by simpa using hu
      rw [hu2] at hc
      cases hz : (ty t).zero[k]? with
      | none => rw [hz] at hc; cases hc
      | some z =>
        rw [hz] at hc
        simp only [Option.some.injEq] at hc
        subst hc
        exact constC_rel u
    · exact .top _
  · exact .bool _
  · exact .int _ _
  · exact .flt _ _
  · exact .cpx _ _ _
  · exact .str _ _ rfl
  · exact .nilp
  · exact nilSlice_rel
  · exact .nilm
  · exact .nilf
  · exact .nili
  · exact .top _

theorem ev_rel {ty : Nat → Ty} {d n : Nat} {a : Act} {w : World} {g : Gh} {env : Env} (hf : FRel d n a w g env) (t : Nat) (x : Operand) : VRel w g.F g.ι (ev ty env t x) (a.eval x) := by
  cases x with
  | tmp i => exact (hf.slot i).demote
  | const v => exact constV_rel v
  | global g => exact .top _
  | func f => exact .func _ _ _ _ _ rfl rfl (by simp) (by simp)

/-! ### After an operation -/
def OpDone (P : Program) (d n : Nat) (o : Oper) (a : Act) (w : World) (g : Gh) (v : V) (env' : Env) (h' : H) : Prop :=
  ∃ u w' g', ((execOp a.eval o).run P w = .ok (.value u) w' ∨ ((execOp a.eval o).run P w = .ok .skip w' ∧ u = undef)) ∧
    Ext d w g w' g' ∧ HRel w' g' h' ∧ FRel d n a w' g' env' ∧ ∀ i, o.dst = some i → VAt w' g' (.slot d i) v u

theorem OpDone.pure {P : Program} {d n : Nat} {o : Oper} {a : Act} {w : World} {g : Gh} {v : V} {env : Env} {h : H} {u : Value} (hf : FRel d n a w g env) (hh : HRel w g h)
    (hr : (execOp a.eval o).run P w = .ok (.value u) w) (hv : VRel w g.F g.ι v u) : OpDone P d n o a w g v env h :=
  ⟨u, w, g, .inl hr, Ext.refl _ _ _, hh, hf, fun _ _ => .inl hv⟩

theorem FRel.put {d n : Nat} {a : Act} {w : World} {g : Gh} {env : Env} {v : V} {u : Value} (hf : FRel d n a w g env) (o : Option Nat) (hd : dstOk n o) (hv : ∀ i, o = some i → VAt w g (.slot d i) v u) :
    FRel d n (a.put o u) w g (putD o env v) := by
  cases o with
  | none => exact hf
  | some i =>
    have hi : i < n := hd
    refine ⟨by simp [Act.put, hf.size], fun j => ?_, hf.defers⟩
    simp only [putD, Env.get_put, Act.put]
    by_cases hji : j = i
    · subst hji
      simp only [if_true]
      have : (a.tmps.setIfInBounds j u).getD j undef = u := by
        simp [Array.getD_eq_getD_getElem?, Array.getElem?_setIfInBounds, hf.size, hi]
      rw [this]
      exact hv j rfl
    · rw [if_neg hji]
      have : (a.tmps.setIfInBounds i u).getD j undef = a.tmps.getD j undef := by
        simp [Array.getD_eq_getD_getElem?, Array.getElem?_setIfInBounds, show ¬ i = j from fun e => hji e.symm]
      rw [this]
      exact hf.slot j

/-! ### Inversions -/
section
variable {w : World} {F : Nat → Nat} {ι : List Nat} {u : Value}
omit [DS] in
theorem VRel.int_inv {k : IntKind} {n : Int} (h : VRel w F ι (.int k n) u) : u = .int k n := by cases h; rfl
omit [DS] in
theorem VRel.bool_inv {b : Bool} (h : VRel w F ι (.bool b) u) : u = .bool b := by cases h; rfl
omit [DS] in
theorem VRel.str_inv {l : List UInt8} (h : VRel w F ι (.str l) u) : ∃ s : ByteArray, u = .string s ∧ s.data.toList = l := by cases h with | str s _ hs => exact ⟨s, rfl, hs⟩
omit [DS] in
theorem VRel.str_of (l : List UInt8) (s : ByteArray) (h : s.data.toList = l) : VRel w F ι (.str l) (.string s) := .str _ _ h
end

omit [DS] in
theorem toList_data (s : ByteArray) : s.toList = s.data.toList := ByteArray.toList_eq s

/-! ### Arithmetic -/
omit [DS] in
theorem intOp_run {P : Program} {w : World} {F : Nat → Nat} {ι : List Nat} {op : BinOp} {k : IntKind} {x y : Int} {p : Prop} {v : V} {t : TypeId} (h : intOp op k x y = .ok p v) (hp : p) (hs : isShift op = false) :
    ∃ u, (Go.binOp op t (.int k x) (.int k y)).run P w = .ok u w ∧ VRel w F ι v u := by
  cases op <;> simp only [intOp, R1.ok.injEq, reduceCtorEq] at h <;> obtain ⟨rfl, rfl⟩ := h
  case quo => exact ⟨_, by simp [Go.binOp, Op.intDiv, hp], .int _ _⟩
  case rem => exact ⟨_, by simp [Go.binOp, Op.intDiv, hp], .int _ _⟩
  case eql => exact ⟨.bool (x == y), by simp [Go.binOp, Op.intCmp], (VRel.bool (decide (x = y)) : VRel w F ι (.bool (decide (x = y))) (.bool (decide (x = y))))⟩
  case neq => exact ⟨.bool (x != y), by simp [Go.binOp, Op.intCmp], (VRel.bool (!decide (x = y)) : VRel w F ι (.bool (!decide (x = y))) (.bool (!decide (x = y))))⟩
  case lss => exact ⟨_, by simp [Go.binOp, Op.intCmp], .bool _⟩
  case leq => exact ⟨_, by simp [Go.binOp, Op.intCmp], .bool _⟩
  case gtr => exact ⟨_, by simp [Go.binOp, Op.intCmp], .bool _⟩
  case geq => exact ⟨_, by simp [Go.binOp, Op.intCmp], .bool _⟩
  case add => exact ⟨_, by simp [Go.binOp, Op.intArith], .int _ _⟩
  case sub => exact ⟨_, by simp [Go.binOp, Op.intArith], .int _ _⟩
  case mul => exact ⟨_, by simp [Go.binOp, Op.intArith], .int _ _⟩
  case and => exact ⟨.int k (bitsV .and k x y), by simp [Go.binOp]; rfl, .int _ _⟩
  case or => exact ⟨.int k (bitsV .or k x y), by simp [Go.binOp]; rfl, .int _ _⟩
  case xor => exact ⟨.int k (bitsV .xor k x y), by simp [Go.binOp]; rfl, .int _ _⟩
  case andNot => exact ⟨.int k (bitsV .andNot k x y), by simp [Go.binOp]; rfl, .int _ _⟩

omit [DS] in
theorem shiftOp_run {P : Program} {w : World} {F : Nat → Nat} {ι : List Nat} {op : BinOp} {k k' : IntKind} {x y : Int} {p : Prop} {v : V} {t : TypeId} (h : shiftOp op k x y = .ok p v) (hp : p) :
    ∃ u, (Go.binOp op t (.int k x) (.int k' y)).run P w = .ok u w ∧ VRel w F ι v u := by
  cases op <;> simp only [shiftOp, R1.ok.injEq, reduceCtorEq] at h <;> obtain ⟨rfl, rfl⟩ := h
  · exact ⟨_, by simp [Go.binOp, Op.shift, show ¬ y < 0 by omega], .int _ _⟩
  · exact ⟨_, by simp [Go.binOp, Op.shift, show ¬ y < 0 by omega], .int _ _⟩

omit [DS] in
theorem strOp_run {P : Program} {w : World} {F : Nat → Nat} {ι : List Nat} {op : BinOp} {x y : ByteArray} {l m : List UInt8} (hx : x.data.toList = l) (hy : y.data.toList = m) {p : Prop} {v : V} {t : TypeId} (h : strOp op l m = .ok p v) (hp : p) :
    ∃ u, (Go.binOp op t (.string x) (.string y)).run P w = .ok u w ∧ VRel w F ι v u := by
  have hsx : x.size = l.length := by rw [← hx]; simp
  have hsy : y.size = m.length := by rw [← hy]; simp
  cases op <;> simp only [strOp, R1.ok.injEq, reduceCtorEq] at h <;> obtain ⟨rfl, rfl⟩ := h
  case add =>
    refine ⟨_, ?_, .str (x ++ y) _ (by simp [← hx, ← hy])⟩
    have : ¬ ((x.size + y.size : Nat) : Int) > IntKind.i64.max := by
      have : IntKind.i64.max = 9223372036854775807 := rfl
      omega
    simp only [Go.binOp, Op.stringOp]
    rw [if_neg this]
    rfl
  all_goals
    refine ⟨_, by simp only [Go.binOp, Op.stringOp, toList_data, hx, hy]; rfl, ?_⟩
    first
      | exact .bool _
      | (rw [show (l == m) = decide (l = m) from by rw [Bool.eq_iff_iff]; simp]; exact .bool _)

end Go.Proofs.YtmjohmefhikelaaDoor.Pv
