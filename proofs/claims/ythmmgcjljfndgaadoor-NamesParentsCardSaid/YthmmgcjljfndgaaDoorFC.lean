/- A range over strings.SplitSeq's iterator: the law for a body that looks at each piece and goes on, or returns. -/
import Derived.Test.YthmmgcjljfndgaaDoorFB
set_option linter.unusedVariables false
set_option linter.unusedSimpArgs false
namespace Go.Proofs.YthmmgcjljfndgaaDoor.Pv
open Go Go.Proofs Go.RowKit

/-- What a round leaves alone. -/
def Leaves (B Bs Bp Bz : Nat) (W W' : World) : Prop := ∀ b, (b = Bs ∨ b = Bp ∨ b = Bz ∨ B ≤ b) → b < W.heap.size → W'.heap[b]? = W.heap[b]?

theorem range_split {Bs Bp Bz : Nat} {c : UInt8} {x : ByteArray} {ok : ByteArray → Bool} {g : Operand} {ps : Nat} {assign body : Code} {Q : Exit → Act → World → Prop} {a : Act} {w : World} {n : Nat}
    (hg : a.eval g = .func (.func 22) #[] #[.pointer (some ⟨Bp, 0, none⟩), .pointer (some ⟨Bs, 0, none⟩), .pointer (some ⟨Bz, 0, none⟩)]) (hH : Held Bs Bp Bz c x w) (hxs : x.size ≤ 900000000) (hsp : Bs ≠ Bp) (hsz : Bs ≠ Bz)
    (I Ix : World → Prop) (hIput : ∀ (W : World) (l : Nat) (o : Obj), w.heap.size ≤ l → I W → I (W.putObj l o)) (hXput : ∀ (W : World) (l : Nat) (o : Obj), w.heap.size ≤ l → Ix W → Ix (W.putObj l o))
    (hIset : ∀ (W : World) (y : ByteArray), I W → I (W.setCell ⟨Bs, 0, none⟩ (.string y))) (h0 : ∀ r : Go.Loop, I ((w.alloc (.deferred (some []))).alloc (.loop r)))
    (a₁ : ByteArray → Act)
    (hassign : ∀ (l : Nat) (p : ByteArray) (W : World) (K : Act → World → Prop), K (a₁ p) W → assign.wpIn (Fence.wide.inRound l) 0 Tryd.prog (Exit.then K (fun _ _ _ => False)) { tmps := a.tmps.setIfInBounds ps (.string p), defers := [] } W)
    (hbody : ∀ (l : Nat) (p : ByteArray) (W : World), p.size ≤ 900000000 → I W → w.heap.size + 2 ≤ W.heap.size → body.wpIn (Fence.wide.inRound l) 0 Tryd.prog
      (fun e _ W' => match e with | .normal => ok p = true ∧ I W' ∧ Leaves w.heap.size Bs Bp Bz W W' | .ret => ok p = false ∧ Ix W' ∧ Leaves w.heap.size Bs Bp Bz W W' | _ => False) (a₁ p) W)
    (hdone : ∀ (D : Nat) (W : World), w.heap.size ≤ D → I W → W.heap[D]? = some (.deferred (some [])) → allOk ok c x.data.toList = true → Q .normal { a with defers := { target := .collected D, args := #[] } :: a.defers } W)
    (hstop : ∀ (D : Nat) (W : World), w.heap.size ≤ D → Ix W → W.heap[D]? = some (.deferred (some [])) → allOk ok c x.data.toList = false → (Code.ret).wpIn Fence.wide n Tryd.prog Q { a with defers := { target := .collected D, args := #[] } :: a.defers } W) :
    (Code.rangeFunc g #[ps] assign body).wpIn Fence.wide n Tryd.prog Q a w := by
  have hlb : Bs < w.heap.size ∧ Bp < w.heap.size ∧ Bz < w.heap.size := ⟨(Array.getElem?_eq_some_iff.1 hH.1).1, (Array.getElem?_eq_some_iff.1 hH.2.1).1, (Array.getElem?_eq_some_iff.1 hH.2.2).1⟩
  refine wpIn_rangeFunc ?_
  intro fn hfn
  show ∃ (l : Nat) (mark : List Deferred) (w₁ : World) (d : Deferred) (w₁' : World) (f : FuncId) (args : Array Value) (w₂ : World), (Instr.enterLoop fn a.tmps #[ps] assign body none).run Tryd.prog w = .ok (l, mark) w₁ ∧ _
  obtain ⟨rec, hrec⟩ : ∃ rec : LoopState → Option Code → Go.Loop, rec = fun st pe => { state := st, pending := pe, fn, tmps := a.tmps, params := #[ps], assign, body, defers := w.heap.size } := ⟨_, rfl⟩
  obtain ⟨W1, hW1⟩ : ∃ W1, (w.alloc (.deferred (some []))).alloc (.loop (rec .ready none)) = W1 := ⟨_, rfl⟩
  have hL1 : W1.heap[w.heap.size + 1]? = some (.loop (rec .ready none)) := by
    rw [← hW1]; have := World.alloc_heap_new (w.alloc (.deferred (some []))) (.loop (rec .ready none)); rwa [World.size_alloc] at this
  have hK1 : W1.heap[w.heap.size]? = some (.deferred (some [])) := by
    rw [← hW1]; exact (Below.heap_alloc _ _ _ (by simp)).trans (World.alloc_heap_new w _)
  have hI1 : I W1 := by rw [← hW1]; exact h0 _
  have hold : ∀ b, b < w.heap.size → W1.heap[b]? = w.heap[b]? := fun b hb => by
    rw [← hW1]; exact (Below.heap_alloc _ _ _ (by simp; omega)).trans (Below.heap_alloc w _ b hb)
  have hH1 : Held Bs Bp Bz c x W1 := ⟨(hold _ hlb.1).trans hH.1, (hold _ hlb.2.1).trans hH.2.1, (hold _ hlb.2.2).trans hH.2.2⟩
  refine ⟨w.heap.size + 1, [{ target := .collected w.heap.size, args := #[] }], W1, { target := .fn (.func 22) #[.pointer (some ⟨Bp, 0, none⟩), .pointer (some ⟨Bs, 0, none⟩), .pointer (some ⟨Bz, 0, none⟩)], args := #[.func (.yield (w.heap.size + 1)) #[] #[]] }, W1, 22,
    #[.func (.yield (w.heap.size + 1)) #[] #[]] ++ #[.pointer (some ⟨Bp, 0, none⟩), .pointer (some ⟨Bs, 0, none⟩), .pointer (some ⟨Bz, 0, none⟩)], W1, ?_, ?_, fun _ _ => trivial, ?_, (fun h => by cases h), ?_⟩
  · rw [← hW1, hrec]; exact run_enterLoop_outer _ _ _ _ _
  · simp only [resolve, hg]
    simp [go_sem]
  · simp [invoke, go_sem, enters_of Tryd.func22 (by kernel_rfl) rfl]
  · have hother : ∀ (W : World) (y : ByteArray) (b : Nat), b ≠ Bs → (W.setCell ⟨Bs, 0, none⟩ (.string y)).heap[b]? = W.heap[b]? := fun W y b hb => by simp [World.setCell, Array.getElem?_modify, Ne.symm hb]
    have hput : ∀ (W : World) (o : Obj), (W.putObj (w.heap.size + 1) o).heap.size = W.heap.size := fun W o => by simp [World.putObj]
    refine callsIn_wide.2 (callsIn_wide.1 ((iter_ok (w.heap.size + 1) Bs Bp Bz c ok
      (fun W => I W ∧ W.heap[w.heap.size + 1]? = some (.loop (rec .ready none)) ∧ W.heap[w.heap.size]? = some (.deferred (some [])))
      (fun W => Ix W ∧ W.heap[w.heap.size + 1]? = some (.loop (rec .done (some .ret))) ∧ W.heap[w.heap.size]? = some (.deferred (some [])))
      ?_ (fun y W hw => ⟨hIset W y hw.1, (hother W y _ (by omega)).trans hw.2.1, (hother W y _ (by omega)).trans hw.2.2⟩) x hxs hsp hsz W1 ⟨hI1, hL1, hK1⟩ hH1).mono ?_))
    · rintro y p W hp ⟨hi, hl, hk⟩ hh
      have hlt : w.heap.size + 1 < W.heap.size := (Array.getElem?_eq_some_iff.1 hl).1
      have hy := run_yield (P := Tryd.prog) (args := #[.string p]) hl (by rw [hrec]; rfl)
      rw [hrec] at hy
      have hfold : ((#[ps] : Array Tmp).zip #[Value.string p]).foldl (fun tmps (t, a) => tmps.setIfInBounds t a) a.tmps = a.tmps.setIfInBounds ps (.string p) := by simp
      dsimp only at hy
      rw [hfold] at hy
      refine ⟨fn, _, assign, body, hy, ?_⟩
      refine roundIn_of_wpIn trivial ?_
      refine hassign _ p W _ ?_
      refine ⟨_, run_beginRound hl (by rw [hrec]), ?_⟩
      have hl2 : (W.putObj (w.heap.size + 1) (.loop { rec .ready none with state := .busy })).heap[w.heap.size + 1]? = some (.loop { rec .ready none with state := .busy }) := World.putObj_heap_same hlt
      have hk2 : (W.putObj (w.heap.size + 1) (.loop { rec .ready none with state := .busy })).heap[w.heap.size]? = some (.deferred (some [])) := (World.putObj_heap_other (by omega)).trans hk
      have hh2 : Held Bs Bp Bz c y (W.putObj (w.heap.size + 1) (.loop { rec .ready none with state := .busy })) :=
        ⟨(World.putObj_heap_other (by omega)).trans hh.1, (World.putObj_heap_other (by omega)).trans hh.2.1, (World.putObj_heap_other (by omega)).trans hh.2.2⟩
      refine wpIn_mono (hbody _ p _ hp (hIput _ _ _ (by omega) hi) (by rw [hput]; omega)) ?_
      have hsize := hput W (.loop { rec .ready none with state := .busy })
      generalize hW2 : W.putObj (w.heap.size + 1) (.loop { rec .ready none with state := .busy }) = W2 at hl2 hk2 hh2 hsize
      have fin : ∀ (jump : Option Code) (W3 : World), Leaves w.heap.size Bs Bp Bz W2 W3 →
          (Instr.endRound (w.heap.size + 1) jump).run Tryd.prog W3 = .ok (.bool jump.isNone) (W3.putObj (w.heap.size + 1) (.loop (rec (if jump.isNone then .ready else .done) jump))) ∧
          (W3.putObj (w.heap.size + 1) (.loop (rec (if jump.isNone then .ready else .done) jump))).heap[w.heap.size + 1]? = some (.loop (rec (if jump.isNone then .ready else .done) jump)) ∧
          (W3.putObj (w.heap.size + 1) (.loop (rec (if jump.isNone then .ready else .done) jump))).heap[w.heap.size]? = some (.deferred (some [])) ∧
          Held Bs Bp Bz c y (W3.putObj (w.heap.size + 1) (.loop (rec (if jump.isNone then .ready else .done) jump))) := fun jump W3 hk3 => by
        have hl3 : W3.heap[w.heap.size + 1]? = _ := (hk3 _ (by omega) (by omega)).trans hl2
        have hd3 : W3.heap[w.heap.size]? = _ := (hk3 _ (by omega) (by omega)).trans hk2
        have := run_endRound (P := Tryd.prog) jump hl3
        rw [hrec] at this ⊢
        refine ⟨this, World.putObj_heap_same (Array.getElem?_eq_some_iff.1 hl3).1, (World.putObj_heap_other (by omega)).trans hd3, ?_⟩
        exact ⟨(World.putObj_heap_other (by omega)).trans ((hk3 _ (by omega) (by omega)).trans hh2.1), (World.putObj_heap_other (by omega)).trans ((hk3 _ (by omega) (by omega)).trans hh2.2.1), (World.putObj_heap_other (by omega)).trans ((hk3 _ (by omega) (by omega)).trans hh2.2.2)⟩
      rintro e a3 W3 hp3
      cases e with
      | normal =>
        obtain ⟨ho, hi3, hk3⟩ := hp3
        obtain ⟨hr, hl4, hk4, hh4⟩ := fin none W3 hk3
        exact ⟨_, _, hr, .inl ⟨rfl, ho, ⟨hIput _ _ _ (by omega) hi3, hl4, hk4⟩, hh4⟩⟩
      | ret =>
        obtain ⟨ho, hi3, hk3⟩ := hp3
        obtain ⟨hr, hl4, hk4, hh4⟩ := fin (some .ret) W3 hk3
        exact ⟨_, _, hr, .inr ⟨rfl, ho, hXput _ _ _ (by omega) hi3, hl4, hk4⟩⟩
      | exit id => exact hp3.elim
      | goto t => exact hp3.elim
      | panic ch => exact hp3.elim
      | outgrown => exact hp3.elim
    · rintro e W2 ⟨⟨v, rfl⟩, (⟨hall, hi, hl, hk⟩ | ⟨hall, hi, hl, hk⟩)⟩
      · exact ⟨none, _, by have := run_endLoop (P := Tryd.prog) hl (by rw [hrec]; simp); rw [hrec] at this; exact this, hdone _ _ (Nat.le_refl _) (hIput _ _ _ (by omega) hi) ((World.putObj_heap_other (by omega)).trans hk) hall⟩
      · exact ⟨some .ret, _, by have := run_endLoop (P := Tryd.prog) hl (by rw [hrec]; simp); rw [hrec] at this; exact this, hstop _ _ (Nat.le_refl _) (hXput _ _ _ (by omega) hi) ((World.putObj_heap_other (by omega)).trans hk) hall⟩
end Go.Proofs.YthmmgcjljfndgaaDoor.Pv
