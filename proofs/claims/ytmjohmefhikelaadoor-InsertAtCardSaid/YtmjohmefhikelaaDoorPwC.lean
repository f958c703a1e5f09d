/- The pure evaluator, part C: what pure values say of a world. -/
import Derived.Test.YtmjohmefhikelaaDoorPwB
import Derived.Test.YtmjohmefhikelaaDoorPwGl
import Derived.Laws.AppendOwn
import Derived.Below
set_option linter.unusedVariables false
set_option linter.unusedSimpArgs false
namespace Go.Proofs.YtmjohmefhikelaaDoor.Pv
open Go

/-- Pure values against values of a world. 'F b': how far the block b is never written any more; 'ι': the objects' blocks. -/
inductive VRel (w : World) (F : Nat → Nat) (ι : List Nat) : V → Value → Prop
  | bool (b : Bool) : VRel w F ι (.bool b) (.bool b)
  | int (k : IntKind) (n : Int) : VRel w F ι (.int k n) (.int k n)
  | flt (k : FloatKind) (n : Nat) : VRel w F ι (.flt k n) (.float k n)
  | cpx (k : FloatKind) (a b : Nat) : VRel w F ι (.cpx k a b) (.complex k a b)
  | str (s : ByteArray) (l : List UInt8) (h : s.data.toList = l) : VRel w F ι (.str l) (.string s)
  | sl0 (sz : Nat) (a : Option Addr) (cap : Nat) : VRel w F ι (.sl sz []) (.slice a 0 cap)
  | sl (sz : Nat) (xs : List V) (b off len cap : Nat) (vals : List Value) (hlen : len = xs.length) (hcap : len ≤ cap) (hsz : 0 < sz) (hw : ∀ x ∈ xs, x.cells.length = sz)
      (hv : vals.length = xs.length * sz) (hcov : off + vals.length ≤ F b) (hc : ∀ (k : Nat) (u : Value), vals[k]? = some u → w.cell? ⟨b, off + k, none⟩ = some u)
      (h1 : ∀ u ∈ vals, u.oneCell' = true) (hr : ∀ (k : Nat) (c : V) (u : Value), (xs.flatMap V.cells)[k]? = some c → vals[k]? = some u → VRel w F ι c u) :
      VRel w F ι (.sl sz xs) (.slice (some ⟨b, off, none⟩) len cap)
  | cap0 (sz : Nat) (a : Option Addr) : VRel w F ι (.cap sz []) (.slice a 0 0)
  | cap (sz : Nat) (xs : List V) (b off len : Nat) (vals : List Value) (hlen : len = xs.length) (hsz : 0 < sz) (hw : ∀ x ∈ xs, x.cells.length = sz)
      (hv : vals.length = xs.length * sz) (hcov : off + vals.length ≤ F b) (hc : ∀ (k : Nat) (u : Value), vals[k]? = some u → w.cell? ⟨b, off + k, none⟩ = some u)
      (h1 : ∀ u ∈ vals, u.oneCell' = true) (hr : ∀ (k : Nat) (c : V) (u : Value), (xs.flatMap V.cells)[k]? = some c → vals[k]? = some u → VRel w F ι c u) :
      VRel w F ι (.cap sz xs) (.slice (some ⟨b, off, none⟩) len len)
  | slen (n : Nat) (a : Option Addr) (cap : Nat) : VRel w F ι (.slen n) (.slice a n cap)
  | own0 (e sz : Nat) (a : Option Addr) : VRel w F ι (.own e sz []) (.slice a 0 0)
  | nils (e sz : Nat) : VRel w F ι (.nils e sz) (.slice none 0 0)
  | pri0 (o : Option Value) (e sz : Nat) (a : Option Addr) (ho : ∀ u, o = some u → u = .slice a 0 0) : VRel w F ι (.pri o e sz []) (.slice a 0 0)
  | raw (u : Value) : VRel w F ι (.raw u) u
  | msl (id off len sz cap b : Nat) (a : Option Addr) (hcap : len ≤ cap) (hid : ι[id]? = some b) (ha : 0 < len → a = some ⟨b, off, none⟩) : VRel w F ι (.msl id off len sz) (.slice a len cap)
  | ref (id off b : Nat) (hid : ι[id]? = some b) : VRel w F ι (.ref id off) (.pointer (some ⟨b, off, none⟩))
  | imm (cs : List V) (b off : Nat) (vals : List Value) (hv : vals.length = cs.length) (hcov : off + vals.length ≤ F b)
      (hc : ∀ (k : Nat) (u : Value), vals[k]? = some u → w.cell? ⟨b, off + k, none⟩ = some u) (h1 : ∀ u ∈ vals, u.oneCell' = true)
      (hr : ∀ (k : Nat) (c : V) (u : Value), cs[k]? = some c → vals[k]? = some u → VRel w F ι c u) :
      VRel w F ι (.imm cs) (.pointer (some ⟨b, off, none⟩))
  | nilp : VRel w F ι .nilp (.pointer none)
  | map (id b : Nat) (hid : ι[id]? = some b) : VRel w F ι (.map id) (.map (some b))
  | nilm : VRel w F ι .nilm (.map none)
  | func (fn : Fn) (fs cs : List V) (fa ca : Array Value) (hf : fs.length = fa.size) (hcl : cs.length = ca.size)
      (hfr : ∀ (k : Nat) (c : V) (u : Value), fs[k]? = some c → fa[k]? = some u → VRel w F ι c u)
      (hcr : ∀ (k : Nat) (c : V) (u : Value), cs[k]? = some c → ca[k]? = some u → VRel w F ι c u) : VRel w F ι (.func fn fs cs) (.func fn fa ca)
  | nilf : VRel w F ι .nilf .nilFunc
  | iface (t : TypeId) (v : V) (u : Value) (h : VRel w F ι v u) : VRel w F ι (.iface t v) (.iface t u)
  | nili : VRel w F ι .nili .nilIface
  | agg (cs : List V) (ca : Array Value) (hl : cs.length = ca.size) (hr : ∀ (k : Nat) (c : V) (u : Value), cs[k]? = some c → ca[k]? = some u → VRel w F ι c u) :
      VRel w F ι (.agg cs) (.agg ca)
  | tup (cs : List V) (ca : Array Value) (hl : cs.length = ca.size) (hr : ∀ (k : Nat) (c : V) (u : Value), cs[k]? = some c → ca[k]? = some u → VRel w F ι c u) :
      VRel w F ι (.tup cs) (.tuple ca)
  | top (u : Value) : VRel w F ι .top u

/-- Lists of them, place by place. -/
def LRel (w : World) (F : Nat → Nat) (ι : List Nat) (cs : List V) (us : List Value) : Prop :=
  cs.length = us.length ∧ ∀ (k : Nat) (c : V) (u : Value), cs[k]? = some c → us[k]? = some u → VRel w F ι c u

section
variable {w w' : World} {F F' : Nat → Nat} {ι ι' : List Nat}

/-- Covered cells are as they were; nothing is covered less. -/
structure Cov (w : World) (F : Nat → Nat) (ι : List Nat) (w' : World) (F' : Nat → Nat) (ι' : List Nat) : Prop where
  cell : ∀ b off, off < F b → w'.cell? ⟨b, off, none⟩ = w.cell? ⟨b, off, none⟩
  le : ∀ b, F b ≤ F' b
  pre : ∀ id b : Nat, ι[id]? = some b → ι'[id]? = some b

theorem VRel.mono (hk : Cov w F ι w' F' ι') {v : V} {u : Value} (h : VRel w F ι v u) : VRel w' F' ι' v u := by
  induction h with
  | bool b => exact .bool b
  | int k n => exact .int k n
  | flt k n => exact .flt k n
  | cpx k a b => exact .cpx k a b
  | str s l h => exact .str s l h
  | sl0 sz a cap => exact .sl0 sz a cap
  | sl sz xs b off len cap vals hlen hcap hsz hw hv hcov hc h1 hr ih =>
    refine .sl sz xs b off len cap vals hlen hcap hsz hw hv (Nat.le_trans hcov (hk.le b)) (fun k u hu => ?_) h1 ih
    have hlt : k < vals.length := (List.getElem?_eq_some_iff.1 hu).1
    rw [hk.cell b (off + k) (by omega)]
    exact hc k u hu
  | cap0 sz a => exact .cap0 sz a
  | cap sz xs b off len vals hlen hsz hw hv hcov hc h1 hr ih =>
    refine .cap sz xs b off len vals hlen hsz hw hv (Nat.le_trans hcov (hk.le b)) (fun k u hu => ?_) h1 ih
    have hlt : k < vals.length := (List.getElem?_eq_some_iff.1 hu).1
    rw [hk.cell b (off + k) (by omega)]
    exact hc k u hu
  | slen n a cap => exact .slen n a cap
  | own0 e sz a => exact .own0 e sz a
  | nils e sz => exact .nils e sz
  | pri0 o e sz a ho => exact .pri0 o e sz a ho
  | raw u => exact .raw u
  | msl id off len sz cap b a hcap hid ha => exact .msl id off len sz cap b a hcap (hk.pre _ _ hid) ha
  | ref id off b hid => exact .ref id off b (hk.pre _ _ hid)
  | imm cs b off vals hv hcov hc h1 hr ih =>
    refine .imm cs b off vals hv (Nat.le_trans hcov (hk.le b)) (fun k u hu => ?_) h1 ih
    have hlt : k < vals.length := (List.getElem?_eq_some_iff.1 hu).1
    rw [hk.cell b (off + k) (by omega)]
    exact hc k u hu
  | nilp => exact .nilp
  | map id b hid => exact .map id b (hk.pre _ _ hid)
  | nilm => exact .nilm
  | func fn fs cs fa ca hf hcl hfr hcr ihf ihc => exact .func fn fs cs fa ca hf hcl ihf ihc
  | nilf => exact .nilf
  | iface t v u h ih => exact .iface t v u ih
  | nili => exact .nili
  | agg cs ca hl hr ih => exact .agg cs ca hl ih
  | tup cs ca hl hr ih => exact .tup cs ca hl ih
  | top u => exact .top u

theorem LRel.mono (hk : Cov w F ι w' F' ι') {cs : List V} {us : List Value} (h : LRel w F ι cs us) : LRel w' F' ι' cs us :=
  ⟨h.1, fun k c u hc hu => (h.2 k c u hc hu).mono hk⟩

theorem Cov.refl (w : World) (F : Nat → Nat) (ι : List Nat) : Cov w F ι w F ι := ⟨fun _ _ _ => rfl, fun _ => Nat.le_refl _, fun _ _ h => h⟩
theorem Cov.trans {w'' : World} {F'' : Nat → Nat} {ι'' : List Nat} (h : Cov w F ι w' F' ι') (k : Cov w' F' ι' w'' F'' ι'') : Cov w F ι w'' F'' ι'' :=
  ⟨fun b off hlt => (k.cell b off (Nat.lt_of_lt_of_le hlt (h.le b))).trans (h.cell b off hlt), fun b => Nat.le_trans (h.le b) (k.le b), fun _ _ hb => k.pre _ _ (h.pre _ _ hb)⟩

theorem VRel.plain {v : V} {u : Value} (h : VRel w F ι v u) (hp : v.plain = true) : u.oneCell' = true := by
  cases h <;> first | rfl | simp [V.plain] at hp

theorem LRel.nil : LRel w F ι [] [] := ⟨rfl, by simp⟩
theorem LRel.cons {c : V} {u : Value} {cs : List V} {us : List Value} (h : VRel w F ι c u) (ht : LRel w F ι cs us) : LRel w F ι (c :: cs) (u :: us) :=
  ⟨by simp [ht.1], fun k c' u' hc hu => by
    cases k with
    | zero => simp at hc hu; subst hc; subst hu; exact h
    | succ k => simp at hc hu; exact ht.2 k c' u' hc hu⟩
theorem LRel.append {cs ds : List V} {us vs : List Value} (h : LRel w F ι cs us) (k : LRel w F ι ds vs) : LRel w F ι (cs ++ ds) (us ++ vs) := by
  refine ⟨by simp [h.1, k.1], fun i c u hc hu => ?_⟩
  rw [List.getElem?_append] at hc hu
  rw [h.1] at hc
  split at hc
  · rename_i hlt; rw [if_pos hlt] at hu; exact h.2 i c u hc hu
  · rename_i hlt; rw [if_neg hlt] at hu; exact k.2 _ c u hc hu
theorem LRel.take {cs : List V} {us : List Value} (h : LRel w F ι cs us) (n : Nat) : LRel w F ι (cs.take n) (us.take n) := by
  refine ⟨by simp [h.1], fun i c u hc hu => ?_⟩
  rw [List.getElem?_take] at hc hu
  split at hc
  · rename_i hlt; rw [if_pos hlt] at hu; exact h.2 i c u hc hu
  · cases hc
theorem LRel.drop {cs : List V} {us : List Value} (h : LRel w F ι cs us) (n : Nat) : LRel w F ι (cs.drop n) (us.drop n) := by
  refine ⟨by simp [h.1], fun i c u hc hu => ?_⟩
  rw [List.getElem?_drop] at hc hu
  exact h.2 _ c u hc hu
theorem LRel.get {cs : List V} {us : List Value} (h : LRel w F ι cs us) {i : Nat} (hi : i < cs.length) : ∃ u, us[i]? = some u ∧ VRel w F ι cs[i] u := by
  have hu : i < us.length := by rw [← h.1]; exact hi
  exact ⟨us[i], List.getElem?_eq_getElem hu, h.2 i _ _ (List.getElem?_eq_getElem hi) (List.getElem?_eq_getElem hu)⟩
theorem LRel.oneCell {cs : List V} {us : List Value} (h : LRel w F ι cs us) (hp : cs.all V.plain = true) : ∀ u ∈ us, u.oneCell' = true := by
  intro u hu
  obtain ⟨i, hi, rfl⟩ := List.mem_iff_getElem.1 hu
  have hc : i < cs.length := by rw [h.1]; exact hi
  exact (h.2 i cs[i] us[i] (List.getElem?_eq_getElem hc) (List.getElem?_eq_getElem hi)).plain (List.all_eq_true.1 hp _ (List.getElem_mem hc))

/-- The cells of a value. -/
theorem VRel.cells {v : V} {u : Value} (h : VRel w F ι v u) (hv : v.cells.all V.plain = true) : LRel w F ι v.cells u.cells.toList := by
  cases h with
  | agg cs ca hl hr => exact ⟨by simpa [V.cells, Value.cells] using hl, fun k c u hc hu => hr k c u (by simpa [V.cells] using hc) (by simpa [Value.cells] using hu)⟩
  | tup cs ca hl hr => simp [V.cells, V.plain] at hv
  | top u => simp [V.cells, V.plain] at hv
  | raw u => simp [V.cells, V.plain] at hv
  | _ => exact LRel.cons (by constructor <;> first | assumption | exact Nat.le_refl _) LRel.nil

/-- A slice's flattened cells. -/
theorem VRel.flat {sz : Nat} {xs : List V} {u : Value} (h : VRel w F ι (.sl sz xs) u) :
    ∃ a cap, u = .slice a xs.length cap ∧ (xs = [] ∨ xs.length ≤ cap ∧ ∃ b off vals, a = some ⟨b, off, none⟩ ∧ 0 < sz ∧ (∀ x ∈ xs, x.cells.length = sz) ∧ vals.length = xs.length * sz ∧
      off + vals.length ≤ F b ∧ (∀ (k : Nat) (u : Value), vals[k]? = some u → w.cell? ⟨b, off + k, none⟩ = some u) ∧ (∀ u ∈ vals, u.oneCell' = true) ∧ LRel w F ι (xs.flatMap V.cells) vals) := by
  cases h with
  | sl0 _ a cap => exact ⟨a, cap, rfl, .inl rfl⟩
  | sl _ _ b off len cap vals hlen hcap hsz hw hv hcov hc h1 hr =>
    refine ⟨_, cap, by rw [hlen], .inr ⟨by rw [← hlen]; exact hcap, b, off, vals, rfl, hsz, hw, hv, hcov, hc, h1, ?_, hr⟩⟩
    rw [hv]
    clear hr hv hcov hc h1 hlen
    induction xs with
    | nil => simp
    | cons x xs ih =>
      simp only [List.flatMap_cons, List.length_append, List.length_cons, Nat.add_mul, Nat.one_mul]
      rw [ih (fun y hy => hw y (List.mem_cons_of_mem _ hy)), hw x List.mem_cons_self]
      omega

/-- One element of a row of elements of one width. -/
theorem flat_at {sz : Nat} : ∀ {xs : List V} (_ : ∀ x ∈ xs, x.cells.length = sz) {i : Nat} (hi : i < xs.length), ((xs.flatMap V.cells).drop (i * sz)).take sz = xs[i].cells
  | [], _, i, hi => absurd hi (by simp)
  | x :: xs, hw, 0, _ => by
    simp only [Nat.zero_mul, List.drop_zero, List.flatMap_cons, List.getElem_cons_zero]
    rw [← hw x List.mem_cons_self]
    exact List.take_left
  | x :: xs, hw, i + 1, hi => by
    simp only [List.flatMap_cons, List.getElem_cons_succ]
    have e : (i + 1) * sz = x.cells.length + i * sz := by rw [hw x List.mem_cons_self, Nat.add_mul]; omega
    rw [e, List.drop_append]
    have : List.drop (x.cells.length + i * sz) x.cells = [] := List.drop_eq_nil_of_le (by omega)
    rw [this, List.nil_append]
    have e2 : x.cells.length + i * sz - x.cells.length = i * sz := by omega
    rw [e2]
    exact flat_at (fun y hy => hw y (List.mem_cons_of_mem _ hy)) (by simpa using hi)

end

/-- A place that may own a row of the call's own. -/
inductive Place where
  | slot (d i : Nat)
  | cell (id j : Nat)
  deriving DecidableEq

/-- What goes with a world: how far blocks are never written; the objects' blocks; who owns. -/
structure Gh where
  F : Nat → Nat
  ι : List Nat
  O : Nat → Option Place

/-- A row that a place owns: covered whole, or not at all. -/
def rowV (pr : Option (Option Value)) (e sz : Nat) (xs : List V) : V := match pr with | none => .own e sz xs | some o => .pri o e sz xs
def rowF (pr : Option (Option Value)) (n : Nat) : Nat := match pr with | none => n | some _ => 0
/-- A value at a place: it may own its row there. -/
def VAt (w : World) (g : Gh) (p : Place) (v : V) (u : Value) : Prop :=
  VRel w g.F g.ι v u ∨
  ∃ pr e sz xs b off cap cur vals, v = rowV pr e sz xs ∧ u = .slice (some ⟨b, off, none⟩) xs.length cap ∧ w.heap[b]? = some (.cells cur e (0, 0)) ∧ xs.length ≤ cap ∧ cap ≤ maxLen ∧ cur.size = off + cap * sz ∧
    (cur.toList.drop off).take (xs.length * sz) = vals ∧ vals.length = xs.length * sz ∧ 0 < sz ∧ (∀ x ∈ xs, x.cells.length = sz) ∧ (∀ u ∈ vals, u.oneCell' = true) ∧ LRel w g.F g.ι (xs.flatMap V.cells) vals ∧
    g.F b = off + rowF pr (xs.length * sz) ∧ g.O b = some p ∧ ∀ o u', pr = some o → o = some u' → u' = u

theorem VAt.of {w : World} {g : Gh} {p : Place} {v : V} {u : Value} (h : VRel w g.F g.ι v u) : VAt w g p v u := .inl h

/-- As a copy. -/
theorem VAt.demote {w : World} {g : Gh} {p : Place} {v : V} {u : Value} (h : VAt w g p v u) : VRel w g.F g.ι v.demote u := by
  rcases h with h | ⟨pr, e, sz, xs, b, off, cap, cur, vals, rfl, rfl, hb, hcap, hmx, hcs, htk, hvl, hsz, hw, h1, hr, hF, hO, htag⟩
  · cases h <;> simp only [V.demote] <;> constructor <;> first | assumption | exact Nat.le_refl _
  · cases pr with
    | some o => exact .top _
    | none =>
    refine .sl sz xs b off _ cap vals rfl hcap hsz hw hvl (by simp only [rowF] at hF; omega) (fun k u hu => ?_) h1 hr.2
    rw [← htk, List.getElem?_take] at hu
    split at hu
    · rw [List.getElem?_drop] at hu
      simp only [World.cell?, hb]
      simpa using hu
    · cases hu

/-- .. and where a row is moved away. -/
theorem VAt.leftover {w : World} {g : Gh} {p : Place} {v : V} {u : Value} (h : VAt w g p v u) : VRel w g.F g.ι v.left u := by
  by_cases hp : ∃ o e s xs, v = .pri o e s xs
  · obtain ⟨o, e, s, xs, rfl⟩ := hp
    rcases h with h | ⟨pr, e, sz, xs, b, off, cap, cur, vals, he, rfl, _⟩
    · cases h; exact .slen _ _ _
    · cases pr with
      | none => cases he
      | some o =>
        simp only [rowV, V.pri.injEq] at he
        obtain ⟨_, _, _, rfl⟩ := he
        exact .slen _ _ _
  · have e : v.left = v.demote := by
      cases v <;> first | rfl | exact absurd ⟨_, _, _, _, rfl⟩ hp
    rw [e]; exact h.demote
theorem V.lenOf_left (v : V) : v.lenOf = v.left := by cases v <;> rfl

/-- An iterator over a map: which of its entries are still to come. -/
def IRel (w : World) (bm b n : Nat) (left : List (List UInt8)) (last : Option (List UInt8)) : Prop :=
  ∃ (ces : Array MapEntry) (clock since : Nat) (seen : Array Nat) (c0 : Nat) (idx : List Nat), w.heap[bm]? = some (.map ces clock) ∧ w.heap[b]? = some (.mapIter (some bm) since seen c0) ∧ since ≤ c0 ∧ n ≤ ces.size ∧ (ces.size = n → clock = c0) ∧
    (∀ (i : Nat) (e : MapEntry), i < n → ces[i]? = some e → e.born < since) ∧ idx.Nodup ∧ idx.length = left.length ∧
    (∀ (j i : Nat) (k : List UInt8), idx[j]? = some i → left[j]? = some k → i < n ∧ ∃ e, ces[i]? = some e ∧ ∃ s, e.key = .string s ∧ s.data.toList = k) ∧
    (∀ (i : Nat) (e : MapEntry), i < n → ces[i]? = some e → (i ∈ idx ↔ seen.contains e.born = false)) ∧
    (∀ k, last = some k → ∃ (i : Nat) (e : MapEntry), i < n ∧ ces[i]? = some e ∧ (∃ s, e.key = .string s ∧ s.data.toList = k) ∧ ∃ s0 : Array Nat, seen = s0.push e.born)
/-- Maps only grow, and keep their keys. -/
def MapLe (w w' : World) (bm : Nat) : Prop :=
  ∀ (ces : Array MapEntry) (clock : Nat), w.heap[bm]? = some (.map ces clock) → ∃ ces' clock', w'.heap[bm]? = some (.map ces' clock') ∧ ces.size ≤ ces'.size ∧ (ces'.size = ces.size → clock' = clock) ∧
    ∀ (i : Nat) (e : MapEntry), ces[i]? = some e → ∃ e', ces'[i]? = some e' ∧ e'.key = e.key ∧ e'.born = e.born
theorem MapLe.of_eq {w w' : World} {bm : Nat} (h : w'.heap[bm]? = w.heap[bm]?) : MapLe w w' bm := fun ces clock hc => ⟨ces, clock, by rw [h]; exact hc, Nat.le_refl _, fun _ => rfl, fun i e he => ⟨e, he, rfl, rfl⟩⟩
theorem IRel.mono {w w' : World} {bm b n : Nat} {left : List (List UInt8)} {last : Option (List UInt8)} (h : IRel w bm b n left last) (hb : w'.heap[b]? = w.heap[b]?) (hm : MapLe w w' bm) : IRel w' bm b n left last := by
  obtain ⟨ces, clock, since, seen, c0, idx, h1, h2, h3, h4, h5, h6, h7, h8, h9, h10, h11⟩ := h
  obtain ⟨ces', clock', k1, k2, k3, k4⟩ := hm ces clock h1
  have back : ∀ (i : Nat) (e' : MapEntry), i < n → ces'[i]? = some e' → ∃ e, ces[i]? = some e ∧ e'.key = e.key ∧ e'.born = e.born := fun i e' hi he' => by
    have hlt : i < ces.size := by omega
    obtain ⟨e2, g1, g2, g3⟩ := k4 i ces[i] (Array.getElem?_eq_getElem hlt)
    rw [he'] at g1
    obtain rfl := Option.some.inj g1
    exact ⟨_, Array.getElem?_eq_getElem hlt, g2, g3⟩
  refine ⟨ces', clock', since, seen, c0, idx, k1, by rw [hb]; exact h2, h3, by omega, fun hs => ?_, fun i e' hi he' => ?_, h7, h8, fun j i k hj hk => ?_, fun i e' hi he' => ?_, fun k hk => ?_⟩
  · rw [k3 (by omega)]; exact h5 (by omega)
  · obtain ⟨e, g1, _, g3⟩ := back i e' hi he'
    rw [g3]; exact h6 i e hi g1
  · obtain ⟨hi, e, g1, s, g2, g3⟩ := h9 j i k hj hk
    obtain ⟨e', f1, f2, f3⟩ := k4 i e g1
    exact ⟨hi, e', f1, s, by rw [f2]; exact g2, g3⟩
  · obtain ⟨e, g1, _, g3⟩ := back i e' hi he'
    rw [g3]; exact h10 i e hi g1
  · obtain ⟨i, e, hi, g1, ⟨s, g2, g3⟩, g4⟩ := h11 k hk
    obtain ⟨e', f1, f2, f3⟩ := k4 i e g1
    exact ⟨i, e', hi, f1, ⟨s, by rw [f2]; exact g2, g3⟩, by rw [f3]; exact g4⟩
/-- How many cells a row has. -/
def sizeOk (t n m : Nat) : Prop := m ≤ n ∧ (looseT.contains t = false → n = m)
theorem sizeOk.self {t n m : Nat} (h : n = m) : sizeOk t n m := ⟨by omega, fun _ => h⟩
/-- Objects. -/
def ORel (w : World) (g : Gh) (id : Nat) (o : AObj) (b : Nat) : Prop :=
  match o with
  | .cells t vs => ∃ c e, w.heap[b]? = some (.cells c e (0, 0)) ∧ sizeOk t c.size vs.length ∧ (∀ j v u, vs[j]? = some v → c[j]? = some u → VAt w g (.cell id j) v u ∧ u.oneCell' = true) ∧ e = t
  | .map es => ∃ ces clock, w.heap[b]? = some (.map ces clock) ∧ ces.size = es.length ∧
      (∀ (j : Nat) (k v : V) (e : MapEntry), es[j]? = some (k, v) → ces[j]? = some e → VRel w g.F g.ι k e.key ∧ VRel w g.F g.ι v e.val) ∧
      (∀ (i j : Nat) (e e' : MapEntry), ces[i]? = some e → ces[j]? = some e' → e.born = e'.born → i = j) ∧ (∀ (j : Nat) (e : MapEntry), ces[j]? = some e → e.born < clock)
  | .siter s pos => ∃ bs, w.heap[b]? = some (.stringIter bs pos) ∧ bs.data.toList = s
  | .miter m n left last => ∃ bm, g.ι[m]? = some bm ∧ IRel w bm b n left last

/-- The variables that the walk leans on: covered, and integers. -/
def GlobOk (w : World) (F : Nat → Nat) : Prop := ∀ q ∈ globs, 1 ≤ F q.1 ∧ ∃ m, w.cell? ⟨q.1, 0, none⟩ = some (.int q.2 m)
theorem GlobOk.cov {w w' : World} {F F' : Nat → Nat} {ι ι' : List Nat} (h : GlobOk w F) (k : Cov w F ι w' F' ι') : GlobOk w' F' := fun q hq => by
  obtain ⟨h1, m, h2⟩ := h q hq
  exact ⟨Nat.le_trans h1 (k.le _), m, by rw [k.cell _ _ h1]; exact h2⟩
theorem GlobOk.le {w : World} {F F' : Nat → Nat} (h : GlobOk w F) (k : ∀ b, F b ≤ F' b) : GlobOk w F' := fun q hq => by
  obtain ⟨h1, m, h2⟩ := h q hq
  exact ⟨Nat.le_trans h1 (k _), m, h2⟩
structure HRel (w : World) (g : Gh) (h : H) : Prop where
  len : g.ι.length = h.length
  nodup : g.ι.Nodup
  obj : ∀ (id : Nat) (o : AObj) (b : Nat), h[id]? = some o → g.ι[id]? = some b → ORel w g id o b
  apart : ∀ b ∈ g.ι, g.F b = 0 ∧ g.O b = none ∧ b < w.heap.size
  fresh : ∀ b, w.heap.size ≤ b → g.F b = 0 ∧ g.O b = none
  glob : GlobOk w g.F

/-- What is laid by ranges over functions for a frame: from where marks may stand; the loop that the frame is a round of. -/
structure Base where
  top : Option Nat := none
  lp : Option Nat := none
/-- The deferred calls of the frame that is looked at. -/
class DS where
  ds : List Deferred
  base : Base := {}
instance (priority := low) noDefers : DS := { ds := [] }
/-- A mark that a range over a function has left among the deferred calls of the frame. -/
def markOf (D : Nat) : Deferred := { target := .collected D, args := #[] }
def MarkOK (w : World) (g : Gh) (base : Option Nat) (D : Nat) : Prop := (∃ b, base = some b ∧ b ≤ D) ∧ w.heap[D]? = some (.deferred (some [])) ∧ D ∉ g.ι ∧ g.O D = none ∧ g.F D = 0
/-- The record of the loop that the frame is a round of. -/
def LpOK (w : World) (g : Gh) (lp : Option Nat) : Prop := ∀ l, lp = some l → ∃ r : Go.Loop, w.heap[l]? = some (.loop r) ∧ l ∉ g.ι ∧ g.O l = none ∧ g.F l = 0
def hidO : Obj → Bool
  | .deferred (some []) => true
  | .loop _ => true
  | _ => false
/-- Such a block. -/
def Hid (w : World) (D : Nat) : Prop := ∃ o, w.heap[D]? = some o ∧ hidO o = true
/-- The deferred calls: some marks, then the frame's own. -/
def DfOK (w : World) (g : Gh) (base : Base) (ds l : List Deferred) : Prop := (∃ Ds : List Nat, l = Ds.map markOf ++ ds ∧ Ds.Nodup ∧ ∀ D ∈ Ds, MarkOK w g base.top D) ∧ LpOK w g base.lp
theorem DfOK.to {w w' : World} {g g' : Gh} {base : Base} {ds l : List Deferred} (h : DfOK w g base ds l) (k : ∀ D, D < w.heap.size → D ∉ g.ι → g.O D = none → g.F D = 0 → Hid w D → w'.heap[D]? = w.heap[D]? ∧ D ∉ g'.ι ∧ g'.O D = none ∧ g'.F D = 0) : DfOK w' g' base ds l := by
  obtain ⟨⟨Ds, e, hn, hm⟩, hl⟩ := h
  refine ⟨⟨Ds, e, hn, fun D hD => ?_⟩, fun l0 hl0 => ?_⟩
  · obtain ⟨e1, e3, e4, e5, e6⟩ := hm D hD
    obtain ⟨k1, k2, k3, k4⟩ := k D (Array.getElem?_eq_some_iff.1 e3).1 e4 e5 e6 ⟨_, e3, rfl⟩
    exact ⟨e1, k1.trans e3, k2, k3, k4⟩
  · obtain ⟨r, e3, e4, e5, e6⟩ := hl l0 hl0
    obtain ⟨k1, k2, k3, k4⟩ := k l0 (Array.getElem?_eq_some_iff.1 e3).1 e4 e5 e6 ⟨_, e3, rfl⟩
    exact ⟨r, k1.trans e3, k2, k3, k4⟩
theorem DfOK.none {w : World} {g : Gh} {base : Base} {ds l : List Deferred} (h : DfOK w g base ds l) (hb : base.top = Option.none) : l = ds := by
  obtain ⟨⟨Ds, e, _, hm⟩, _⟩ := h
  cases Ds with
  | nil => exact e
  | cons D Ds => obtain ⟨⟨b, hb', _⟩, _⟩ := hm D (by simp); rw [hb] at hb'; cases hb'
structure FRel [DS] (d n : Nat) (a : Act) (w : World) (g : Gh) (env : Env) : Prop where
  size : a.tmps.size = n
  slot : ∀ i, VAt w g (.slot d i) (env.get i) (a.tmps.getD i undef)
  defers : DfOK w g DS.base DS.ds a.defers

variable [DS]

/-- From one world to another: what a piece of code at depth d may have done. -/
structure Ext (d : Nat) (w : World) (g : Gh) (w' : World) (g' : Gh) : Prop where
  os : w'.os = w.os
  tape : w'.tape = w.tape
  output : w'.output = w.output
  size : w.heap.size ≤ w'.heap.size
  cov : Cov w g.F g.ι w' g'.F g'.ι
  new : ∀ b ∈ g'.ι, b ∈ g.ι ∨ w.heap.size ≤ b
  kept : ∀ b, b < w.heap.size → b ∉ g.ι → (∀ id j, g.O b ≠ some (.cell id j)) → (∀ d' i, d ≤ d' → g.O b ≠ some (.slot d' i)) → w'.heap[b]? = w.heap[b]? ∧ g'.F b = g.F b ∧ g'.O b = g.O b

omit [DS] in
theorem Ext.refl (d : Nat) (w : World) (g : Gh) : Ext d w g w g := ⟨rfl, rfl, rfl, Nat.le_refl _, Cov.refl _ _ _, fun _ h => .inl h, fun _ _ _ _ _ => ⟨rfl, rfl, rfl⟩⟩
omit [DS] in
theorem Ext.trans {d : Nat} {w w1 w2 : World} {g g1 g2 : Gh} (h : Ext d w g w1 g1) (k : Ext d w1 g1 w2 g2) : Ext d w g w2 g2 := by
  refine ⟨k.os.trans h.os, k.tape.trans h.tape, k.output.trans h.output, Nat.le_trans h.size k.size, h.cov.trans k.cov, fun b hb => ?_, fun b hlt hι hc hs => ?_⟩
  · rcases k.new b hb with hb | hb
    · exact h.new b hb
    · exact .inr (Nat.le_trans h.size hb)
  · obtain ⟨e1, e2, e3⟩ := h.kept b hlt hι hc hs
    have hι1 : b ∉ g1.ι := fun hb => by
      rcases h.new b hb with hb | hb
      · exact hι hb
      · omega
    obtain ⟨f1, f2, f3⟩ := k.kept b (Nat.lt_of_lt_of_le hlt h.size) hι1 (by rw [e3]; exact hc) (by rw [e3]; exact hs)
    exact ⟨f1.trans e1, f2.trans e2, f3.trans e3⟩
omit [DS] in
/-- A deeper piece is a piece. -/
theorem Ext.up {d d' : Nat} {w w' : World} {g g' : Gh} (h : Ext d' w g w' g') (hd : d ≤ d') : Ext d w g w' g' :=
  ⟨h.os, h.tape, h.output, h.size, h.cov, h.new, fun b hlt hι hc hs => h.kept b hlt hι hc fun d'' i hd'' => hs d'' i (Nat.le_trans hd hd'')⟩

omit [DS] in
/-- A slot of a frame that a deeper call doesn't see. -/
theorem VAt.ext {d d' i : Nat} {w w' : World} {g g' : Gh} {v : V} {u : Value} (h : VAt w g (.slot d i) v u) (hx : Ext d' w g w' g') (hd : d < d') (hap : ∀ b ∈ g.ι, g.F b = 0 ∧ g.O b = none ∧ b < w.heap.size) : VAt w' g' (.slot d i) v u := by
  rcases h with h | ⟨pr, e, sz, xs, b, off, cap, cur, vals, rfl, rfl, hb, hcap, hmx, hcs, htk, hvl, hsz, hw, h1, hr, hF, hO, htag⟩
  · exact .inl (h.mono hx.cov)
  · have hlt : b < w.heap.size := (Array.getElem?_eq_some_iff.1 hb).1
    obtain ⟨e1, e2, e3⟩ := hx.kept b hlt (fun hbi => by have := (hap b hbi).2.1; rw [hO] at this; cases this) (fun id j he => by rw [hO] at he; cases he) (fun d'' i'' hd'' he => by
      rw [hO] at he; injection he with he; injection he with he1 he2; omega)
    exact .inr ⟨pr, e, sz, xs, b, off, cap, cur, vals, rfl, rfl, by rw [e1]; exact hb, hcap, hmx, hcs, htk, hvl, hsz, hw, h1, hr.mono hx.cov, by rw [e2]; exact hF, by rw [e3]; exact hO, htag⟩

omit [DS] in
theorem DfOK.ext {d : Nat} {w w' : World} {g g' : Gh} {base : Base} {ds l : List Deferred} (h : DfOK w g base ds l) (hx : Ext d w g w' g') : DfOK w' g' base ds l :=
  h.to fun D h1 h2 h3 h4 _ => by
    obtain ⟨e1, e2, e3⟩ := hx.kept D h1 h2 (fun _ _ => by rw [h3]; simp) (fun _ _ _ => by rw [h3]; simp)
    exact ⟨e1, fun hb => (hx.new D hb).elim h2 (fun e => by omega), e3.trans h3, e2.trans h4⟩
theorem FRel.ext {d d' n : Nat} {a : Act} {w w' : World} {g g' : Gh} {env : Env} (h : FRel d n a w g env) (hx : Ext d' w g w' g') (hd : d < d') (hap : ∀ b ∈ g.ι, g.F b = 0 ∧ g.O b = none ∧ b < w.heap.size) : FRel d n a w' g' env :=
  ⟨h.size, fun i => (h.slot i).ext hx hd hap, h.defers.ext hx⟩

/-! ### Environments -/
omit [DS] in
theorem Env.get_put (env : Env) (i j : Nat) (v : V) : (env.put i v).get j = if j = i then v else env.get j := by
  induction env with
  | nil => simp [Env.put, Env.get]
  | cons e r ih =>
    obtain ⟨k, u⟩ := e
    simp only [Env.put]
    by_cases hik : i = k
    · subst hik
      simp only [if_true, Env.get]
      split <;> rfl
    · rw [if_neg hik]
      simp only [Env.get]
      by_cases hjk : j = k
      · subst hjk
        simp [show ¬ j = i from fun e => hik e.symm]
      · simp [hjk, ih]
omit [DS] in
theorem Env.get_keep (env : Env) (ks : List Nat) (j : Nat) : (env.keep ks).get j = .top ∨ (env.keep ks).get j = env.get j := by
  induction env with
  | nil => exact .inl rfl
  | cons e r ih =>
    obtain ⟨k, u⟩ := e
    simp only [Env.keep]
    by_cases hk : ks.contains k = true
    · rw [if_pos hk]
      simp only [Env.get]
      by_cases hjk : j = k
      · simp [hjk]
      · simp [hjk, ih]
    · rw [if_neg hk]
      simp only [Env.get]
      by_cases hjk : j = k
      · subst hjk
        refine .inl ?_
        have : ∀ (r : Env), ¬ ks.contains j = true → (r.keep ks).get j = .top := by
          intro r hn
          induction r with
          | nil => rfl
          | cons e r ih =>
            obtain ⟨k, u⟩ := e
            simp only [Env.keep]
            by_cases hc : ks.contains k = true
            · rw [if_pos hc]
              simp only [Env.get]
              rw [if_neg (fun e => hn (by rw [e]; exact hc))]
              exact ih
            · rw [if_neg hc]; exact ih
        exact this r hk
      · rw [if_neg hjk]; exact ih

theorem FRel.keep {d n : Nat} {a : Act} {w : World} {g : Gh} {env : Env} (h : FRel d n a w g env) (ks : List Nat) : FRel d n a w g (env.keep ks) :=
  ⟨h.size, fun i => (Env.get_keep env ks i).elim (fun e => by rw [e]; exact .inl (.top _)) (fun e => by rw [e]; exact h.slot i), h.defers⟩

end Go.Proofs.YtmjohmefhikelaaDoor.Pv
