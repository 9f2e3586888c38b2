/- A range over a function whose iterator keeps a state of its own in memory: the caller says which blocks are its own (U); the iterator touches none of them, and the caller touches nothing else. -/
import Derived.Test.YtpifjikpojikgaaGreatRBase
import Derived.RangeFuncNested
import Derived.RangeFuncBound
import Derived.RangeFuncCalls
import Derived.RangeFuncLeaves
namespace Go.Proofs.YtpifjikpojikgaaGreatR
open Go.RowKit

abbrev Blocks := Nat → Prop
/-- What lies in U stays: so does J. -/
def Stable (J : Blocks → World → Prop) : Prop := ∀ U W W', J U W → Chg (fun k => ¬ U k) W W' → J U W'
/-- What a round of the caller's leaves. -/
def RoundPost (V U X : Blocks) (W : World) (J Jx : Blocks → World → Prop) (e : Ending) (W' : World) : Prop :=
  ∃ U', (∀ k, U' k → (U k ∨ X k ∨ W.heap.size ≤ k) ∧ k < W'.heap.size) ∧ Chg (fun k => U k ∧ ¬ V k) W W' ∧ ((e = .returned (.bool true) ∧ J U' W') ∨ (e = .returned (.bool false) ∧ Jx U' W'))
/-- The iterator's contract: n rounds; Y i: what the round i is handed, its memory in X; V: what the caller must not touch. -/
def SeqC (P : Program) (g : Nat) (lb : Array Value) (n : Nat) (V : Blocks) (Y : Nat → Array Value → Blocks → World → Prop) (w : World) : Prop :=
  ∀ (l : Nat) (J Jx : Nat → Blocks → World → Prop) (U0 : Blocks) (W : World), Chg (fun k => ¬ V k) w W → (∀ i, Stable (J i)) → (∀ i, Stable (Jx i)) →
    (∀ m i U X vs W1, i < n → J i U W1 → Y i vs X W1 → (∀ k, X k → ¬ U k ∧ ¬ V k) → YieldAt Fence.wide m P l vs W1 (RoundPost V U X W1 (J (i + 1)) (Jx (i + 1)))) →
    (∀ k, U0 k → k < W.heap.size) → J 0 U0 W →
    Calls P g (#[.func (.yield l) #[] #[]] ++ lb) W fun e W' => (∃ v, e = .returned v) ∧ ∃ U, J n U W' ∨ ∃ i, i < n ∧ Jx (i + 1) U W'
/-- How the caller's body may be left. -/
def bPost (V U X : Blocks) (W : World) (I : Blocks → World → Prop) (Ix : Code → Blocks → World → Prop) : Exit → Act → World → Prop
  | .normal, _, W' => ∃ U', (∀ k, U' k → (U k ∨ X k ∨ W.heap.size ≤ k) ∧ k < W'.heap.size) ∧ Chg (fun k => U k ∧ ¬ V k) W W' ∧ I U' W'
  | .ret, _, W' => ∃ U', (∀ k, U' k → (U k ∨ X k ∨ W.heap.size ≤ k) ∧ k < W'.heap.size) ∧ Chg (fun k => U k ∧ ¬ V k) W W' ∧ Ix .ret U' W'
  | .exit id, _, W' => ∃ U', (∀ k, U' k → (U k ∨ X k ∨ W.heap.size ≤ k) ∧ k < W'.heap.size) ∧ Chg (fun k => U k ∧ ¬ V k) W W' ∧ Ix (.exit id) U' W'
  | .goto t, _, W' => ∃ U', (∀ k, U' k → (U k ∨ X k ∨ W.heap.size ≤ k) ∧ k < W'.heap.size) ∧ Chg (fun k => U k ∧ ¬ V k) W W' ∧ Ix (.goto t) U' W'
  | .panic _, _, _ => False
  | .outgrown, _, _ => False

theorem Chg.putObj {S : Blocks} {a w : World} (h : Chg S a w) (r : Nat) (o : Obj) (hr : S r ∨ a.heap.size ≤ r) : Chg S a (w.putObj r o) :=
  ⟨h.os, h.tape, h.output, by simpa using h.size, fun k hk hn => (World.putObj_heap_other (by
    rintro rfl
    rcases hr with h1 | h1
    · exact hn h1
    · omega)).trans (h.block k hk hn)⟩

/-- The caller's invariant with the loop's record beside it. -/
def FullJ (I : Blocks → World → Prop) (l D : Nat) (o : Obj) (U : Blocks) (W : World) : Prop :=
  ∃ U1 : Blocks, (∀ k, U k ↔ U1 k ∨ k = l ∨ k = D) ∧ ¬ U1 l ∧ ¬ U1 D ∧ (∀ k, U1 k → k < W.heap.size) ∧ I U1 W ∧ W.heap[l]? = some o ∧ W.heap[D]? = some (.deferred (some []))
theorem FullJ.stable {I : Blocks → World → Prop} (hI : Stable I) (l D : Nat) (o : Obj) : Stable (FullJ I l D o) := by
  rintro U W W' ⟨U1, hU, hl, hD, hb, hi, h1, h2⟩ hc
  refine ⟨U1, hU, hl, hD, fun k h => Nat.lt_of_lt_of_le (hb k h) hc.size, hI U1 W W' hi (hc.mono fun k _ hk h => hk ((hU k).2 (.inl h))), ?_, ?_⟩
  · exact (hc.block l (Array.getElem?_eq_some_iff.1 h1).1 (fun h => h ((hU l).2 (.inr (.inl rfl))))).trans h1
  · exact (hc.block D (Array.getElem?_eq_some_iff.1 h2).1 (fun h => h ((hU D).2 (.inr (.inr rfl))))).trans h2

theorem range_law {P : Program} {g : Operand} {ps : Array Tmp} {assign body : Code} {Q : Exit → Act → World → Prop} {a : Act} {w w0 : World} {m : Nat} {gf : Nat} {lb : Array Value}
    (hg : a.eval g = .func (.func gf) #[] lb) (eg : ∀ args w, (callFunc gf args).run P w = .ok (.enter gf args) w) {n : Nat} {V : Blocks} {Y : Nat → Array Value → Blocks → World → Prop}
    (hseq : SeqC P gf lb n V Y w0) (hV : Chg (fun k => ¬ V k) w0 w) (hVl : ∀ k, V k → k < w.heap.size)
    (I : Nat → Blocks → World → Prop) (Ix : Code → Nat → Blocks → World → Prop) (hI : ∀ i, Stable (I i)) (hIx : ∀ c i, Stable (Ix c i))
    (U0 : Blocks) (h0 : I 0 U0 w) (hU0 : ∀ k, U0 k → k < w.heap.size)
    (hYs : ∀ i vs X W W', Y i vs X W → Chg (fun k => ¬ X k) W W' → Y i vs X W') (hps : ∀ i vs X W, Y i vs X W → vs.size = ps.size) (a₁ : Array Value → Act)
    (hassign : ∀ l m i vs X W (K : Act → World → Prop), Y i vs X W → K (a₁ vs) W →
      assign.wpIn (Fence.wide.inRound l) m P (Exit.then K (fun _ _ _ => False)) { tmps := (ps.zip vs).foldl (fun t (p, v) => t.setIfInBounds p v) a.tmps, defers := [] } W)
    (hbody : ∀ l m i U X vs W, i < n → (∀ k, U k → k < W.heap.size) → I i U W → Y i vs X W → (∀ k, X k → ¬ U k ∧ ¬ V k) → body.wpIn (Fence.wide.inRound l) m P (bPost V U X W (I (i + 1)) (fun c => Ix c (i + 1))) (a₁ vs) W)
    (hdone : ∀ D U W, w.heap.size ≤ D → I n U W → ¬ U D → W.heap[D]? = some (.deferred (some [])) → Q .normal { a with defers := { target := .collected D, args := #[] } :: a.defers } W)
    (hstop : ∀ D c i U W, w.heap.size ≤ D → i < n → Ix c (i + 1) U W → ¬ U D → W.heap[D]? = some (.deferred (some [])) → c.wpIn Fence.wide m P Q { a with defers := { target := .collected D, args := #[] } :: a.defers } W) :
    (Code.rangeFunc g ps assign body).wpIn Fence.wide m P Q a w := by
  refine wpIn_rangeFunc ?_
  intro fn hfn
  obtain ⟨rec, hrec⟩ : ∃ rec : LoopState → Option Code → Loop, rec = fun st pe => { state := st, pending := pe, fn, tmps := a.tmps, params := ps, assign, body, defers := w.heap.size } := ⟨_, rfl⟩
  obtain ⟨W1, hW1⟩ : ∃ W1, (w.alloc (.deferred (some []))).alloc (.loop (rec .ready none)) = W1 := ⟨_, rfl⟩
  have hL1 : W1.heap[w.heap.size + 1]? = some (.loop (rec .ready none)) := by
    rw [← hW1]; have := World.alloc_heap_new (w.alloc (.deferred (some []))) (.loop (rec .ready none)); rwa [World.size_alloc] at this
  have hK1 : W1.heap[w.heap.size]? = some (.deferred (some [])) := by
    rw [← hW1]; exact (Below.heap_alloc _ _ _ (by simp)).trans (World.alloc_heap_new w _)
  have hC1 : Chg (fun _ => False) w W1 := by rw [← hW1]; exact ((Chg.refl _ w).alloc _).alloc _
  have hs1 : W1.heap.size = w.heap.size + 2 := by rw [← hW1]; simp
  have hI1 : I 0 U0 W1 := hI 0 U0 w W1 h0 (hC1.mono fun _ _ h => h.elim)
  refine ⟨w.heap.size + 1, [{ target := .collected w.heap.size, args := #[] }], W1, { target := .fn (.func gf) lb, args := #[.func (.yield (w.heap.size + 1)) #[] #[]] }, W1, gf,
    #[.func (.yield (w.heap.size + 1)) #[] #[]] ++ lb, W1, ?_, ?_, ?_, ?_, fun h => by simp [Fence.wide] at h, ?_⟩
  · rw [← hW1, hrec]; exact run_enterLoop_outer _ _ _ _ _
  · simp only [resolve, hg]
    simp [go_sem]
  · intro f' _; trivial
  · simp [invoke, go_sem, eg]
  · refine callsIn_wide.2 ((hseq (w.heap.size + 1) (fun i => FullJ (I i) (w.heap.size + 1) w.heap.size (.loop (rec .ready none)))
      (fun i U W => ∃ c, FullJ (Ix c i) (w.heap.size + 1) w.heap.size (.loop (rec .done (some c))) U W)
      (fun k => U0 k ∨ k = w.heap.size + 1 ∨ k = w.heap.size) W1 (hV.trans hC1 (fun _ _ h => h.elim)) (fun i => FullJ.stable (hI i) _ _ _)
      (fun i U A B ⟨c, h⟩ hc => ⟨c, FullJ.stable (hIx c i) _ _ _ U A B h hc⟩) ?_ (fun k hk => ?_) ⟨U0, fun _ => Iff.rfl, fun h => by have := hU0 _ h; omega, fun h => by have := hU0 _ h; omega, fun k h => by have := hU0 _ h; omega, hI1, hL1, hK1⟩).mono ?_)
    · rintro m i U X vs W hi ⟨U1, hU, hUl, hUD, hUb, hI2, hl, hk⟩ hY hX
      have hlt : w.heap.size + 1 < W.heap.size := (Array.getElem?_eq_some_iff.1 hl).1
      have hXl : ¬ X (w.heap.size + 1) := fun h => (hX _ h).1 ((hU _).2 (.inr (.inl rfl)))
      have hXD : ¬ X w.heap.size := fun h => (hX _ h).1 ((hU _).2 (.inr (.inr rfl)))
      have hy := run_yield (P := P) (args := vs) hl (by rw [hrec]; exact hps i vs X W hY)
      rw [hrec] at hy
      refine ⟨fn, _, assign, body, hy, roundIn_of_wpIn trivial (hassign _ m i vs X W _ hY ⟨_, run_beginRound hl (by rw [hrec]), ?_⟩)⟩
      obtain ⟨W2, hW2⟩ : ∃ W2, W.putObj (w.heap.size + 1) (.loop { rec .ready none with state := .busy }) = W2 := ⟨_, rfl⟩
      rw [hW2]
      have hl2 : W2.heap[w.heap.size + 1]? = some (.loop { rec .ready none with state := .busy }) := by rw [← hW2]; exact World.putObj_heap_same hlt
      have hk2 : W2.heap[w.heap.size]? = some (.deferred (some [])) := by rw [← hW2]; exact (World.putObj_heap_other (by omega)).trans hk
      have hs2 : W2.heap.size = W.heap.size := by rw [← hW2]; simp
      have hC2 : Chg (fun k => k = w.heap.size + 1) W W2 := by rw [← hW2]; exact (Chg.refl _ W).putObj _ _ (.inl rfl)
      have hI3 : I i U1 W2 := hI i U1 W W2 hI2 (hC2.mono fun k _ e h => hUl (e ▸ h))
      have hY3 : Y i vs X W2 := hYs i vs X W W2 hY (hC2.mono fun k _ e h => hXl (e ▸ h))
      have fin : ∀ (jump : Option Code) (U2 : Blocks) (W3 : World), (∀ k, U2 k → (U1 k ∨ X k ∨ W2.heap.size ≤ k) ∧ k < W3.heap.size) → Chg (fun k => U1 k ∧ ¬ V k) W2 W3 → ∀ I' : Blocks → World → Prop, Stable I' → I' U2 W3 →
          ∃ v w', (Instr.endRound (w.heap.size + 1) jump).run P W3 = .ok v w' ∧ v = .bool jump.isNone ∧ (∀ k, (U2 k ∨ k = w.heap.size + 1 ∨ k = w.heap.size) → (U k ∨ X k ∨ W.heap.size ≤ k) ∧ k < w'.heap.size) ∧ Chg (fun k => U k ∧ ¬ V k) W w' ∧
            FullJ I' (w.heap.size + 1) w.heap.size (.loop (rec (if jump.isNone then .ready else .done) jump)) (fun k => U2 k ∨ k = w.heap.size + 1 ∨ k = w.heap.size) w' := fun jump U2 W3 hU2 hC3 I' hI' hi' => by
        have hl3 : W3.heap[w.heap.size + 1]? = some (.loop { rec .ready none with state := .busy }) := (hC3.block _ (by omega) (fun h => hUl h.1)).trans hl2
        have hk3 : W3.heap[w.heap.size]? = some (.deferred (some [])) := (hC3.block _ (by omega) (fun h => hUD h.1)).trans hk2
        have hr := run_endRound (P := P) jump hl3
        rw [hrec] at hr ⊢
        have hs3 := hC3.size
        have n1 : ¬ U2 (w.heap.size + 1) := fun h => by rcases (hU2 _ h).1 with h | h | h; exact hUl h; exact hXl h; omega
        have n2 : ¬ U2 w.heap.size := fun h => by rcases (hU2 _ h).1 with h | h | h; exact hUD h; exact hXD h; omega
        refine ⟨_, _, hr, rfl, fun k hk => ?_, ?_, U2, fun _ => Iff.rfl, n1, n2, fun k h => by simpa using (hU2 k h).2, hI' _ _ _ hi' ((Chg.refl _ W3).putObj _ _ (.inl n1)), World.putObj_heap_same (Array.getElem?_eq_some_iff.1 hl3).1, (World.putObj_heap_other (by omega)).trans hk3⟩
        · rcases hk with h | h | h
          · refine ⟨?_, by simpa using (hU2 k h).2⟩
            rcases (hU2 k h).1 with h | h | h
            · exact .inl ((hU k).2 (.inl h))
            · exact .inr (.inl h)
            · exact .inr (.inr (by omega))
          · exact ⟨.inl ((hU k).2 (.inr (.inl h))), by simp; omega⟩
          · exact ⟨.inl ((hU k).2 (.inr (.inr h))), by simp; omega⟩
        · have hVn : ¬ V (w.heap.size + 1) := fun h => by have := hVl _ h; omega
          have hUU : U (w.heap.size + 1) := (hU _).2 (.inr (.inl rfl))
          refine (((hC2.mono fun k _ e => ?_).trans hC3 (fun k _ h => ⟨(hU k).2 (.inl h.1), h.2⟩)).putObj _ _ (.inl ⟨hUU, hVn⟩))
          exact e ▸ ⟨hUU, hVn⟩
      refine wpIn_mono (hbody _ m i U1 X vs W2 hi (fun k h => by have := hUb k h; omega) hI3 hY3 (fun k h => ⟨fun h1 => (hX k h).1 ((hU k).2 (.inl h1)), (hX k h).2⟩)) ?_
      rintro e a3 W3 hp
      cases e with
      | normal =>
        obtain ⟨U2, h1, h2, h3⟩ := hp
        obtain ⟨v, w', e1, rfl, e3, e4, e5⟩ := fin none U2 W3 h1 h2 _ (hI (i + 1)) h3
        exact ⟨_, w', e1, _, e3, e4, .inl ⟨rfl, e5⟩⟩
      | ret =>
        obtain ⟨U2, h1, h2, h3⟩ := hp
        obtain ⟨v, w', e1, rfl, e3, e4, e5⟩ := fin (some .ret) U2 W3 h1 h2 _ (hIx _ (i + 1)) h3
        exact ⟨_, w', e1, _, e3, e4, .inr ⟨rfl, .ret, e5⟩⟩
      | exit id =>
        obtain ⟨U2, h1, h2, h3⟩ := hp
        obtain ⟨v, w', e1, rfl, e3, e4, e5⟩ := fin (some (.exit id)) U2 W3 h1 h2 _ (hIx _ (i + 1)) h3
        exact ⟨_, w', e1, _, e3, e4, .inr ⟨rfl, .exit id, e5⟩⟩
      | goto t =>
        obtain ⟨U2, h1, h2, h3⟩ := hp
        obtain ⟨v, w', e1, rfl, e3, e4, e5⟩ := fin (some (.goto t)) U2 W3 h1 h2 _ (hIx _ (i + 1)) h3
        exact ⟨_, w', e1, _, e3, e4, .inr ⟨rfl, .goto t, e5⟩⟩
      | panic ch => exact hp.elim
      | outgrown => exact hp.elim
    · rcases hk with h | h | h
      · have := hU0 _ h; omega
      · omega
      · omega
    · rintro e W2 ⟨⟨v, rfl⟩, U, (⟨U1, hU, hUl, hUD, hUb, hi, hl, hk⟩ | ⟨i, hi, c, U1, hU, hUl, hUD, hUb, hi2, hl, hk⟩)⟩
      · exact ⟨none, _, by have := run_endLoop (P := P) hl (by rw [hrec]; simp); rw [hrec] at this; exact this, hdone _ U1 _ (Nat.le_refl _) (hI n _ _ _ hi ((Chg.refl _ W2).putObj _ _ (.inl hUl))) hUD ((World.putObj_heap_other (by omega)).trans hk)⟩
      · exact ⟨some c, _, by have := run_endLoop (P := P) hl (by rw [hrec]; simp); rw [hrec] at this; exact this, hstop _ c i U1 _ (Nat.le_refl _) hi (hIx c (i + 1) _ _ _ hi2 ((Chg.refl _ W2).putObj _ _ (.inl hUl))) hUD ((World.putObj_heap_other (by omega)).trans hk)⟩
end Go.Proofs.YtpifjikpojikgaaGreatR
