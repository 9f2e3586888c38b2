/- A vault and its ledger, side by side in memory. -/
import Derived.Test.YtpifjikpojikgaaGreatRVault2
namespace Go.Proofs.YtpifjikpojikgaaGreatR
open Go.RowKit

/-- The vault at bv and its ledger lie in T, apart from each other. -/
def Sys (w : World) (T : Nat → Prop) (bv : Nat) (lp : Option Addr) (L : Led) (held : List Bool) (vals : List Value) (mem : Nat → List Value) : Prop :=
  ∃ own : Nat → Bool, VaultAt w (fun k => T k ∧ own k = true) bv lp held vals mem ∧ LedAt w (fun k => T k ∧ own k = false) lp L
theorem LedAt.drew {w : World} {S : Nat → Prop} {p : Option Addr} {L : Led} (h : LedAt w S p L) : LedAt w.drew S p L := h
theorem VaultAt.drew {w : World} {S : Nat → Prop} {bv : Nat} {lp : Option Addr} {held : List Bool} {vals : List Value} {mem : Nat → List Value} (h : VaultAt w S bv lp held vals mem) : VaultAt w.drew S bv lp held vals mem := h
section
variable {w w' : World} {T T' : Nat → Prop} {bv : Nat} {lp : Option Addr} {L L' : Led} {held held' : List Bool} {vals vals' : List Value} {mem mem' : Nat → List Value}
theorem Sys.chg {S : Nat → Prop} (h : Sys w T bv lp L held vals mem) (hc : Chg S w w') (hd : ∀ k, T k → ¬ S k) : Sys w' T bv lp L held vals mem := by
  obtain ⟨own, h1, h2⟩ := h
  exact ⟨own, h1.chg hc (fun k hk => hd k hk.1), h2.chg hc (fun k hk => hd k hk.1)⟩
theorem Sys.retag (h : Sys w T bv lp L held vals mem) (hT : ∀ k, k < w.heap.size → T k → T' k) : Sys w T' bv lp L held vals mem := by
  obtain ⟨own, h1, h2⟩ := h
  exact ⟨own, h1.retag (fun k hk h => ⟨hT k hk h.1, h.2⟩), h2.retag (fun k hk h => ⟨hT k hk h.1, h.2⟩)⟩
/-- Only what lies in memory already counts. -/
theorem Sys.shut (h : Sys w T bv lp L held vals mem) : Sys w (fun k => T k ∧ k < w.heap.size) bv lp L held vals mem := h.retag fun _ hk h => ⟨h, hk⟩
theorem LedAt.shut {S : Nat → Prop} (h : LedAt w S lp L) : LedAt w (fun k => S k ∧ k < w.heap.size) lp L := h.retag fun _ hk h => ⟨h, hk⟩
theorem VaultAt.shut {S : Nat → Prop} (h : VaultAt w S bv lp held vals mem) : VaultAt w (fun k => S k ∧ k < w.heap.size) bv lp held vals mem := h.retag fun _ hk h => ⟨h, hk⟩
/-- The ledger has changed. -/
theorem Sys.led {own : Nat → Bool} (hv : VaultAt w (fun k => T k ∧ own k = true) bv lp held vals mem) (hc : Chg (fun k => T k ∧ own k = false) w w')
    (hl : LedAt w' (fun k => (T k ∧ own k = false) ∨ w.heap.size ≤ k) lp L') : Sys w' (fun k => T k ∨ w.heap.size ≤ k) bv lp L' held vals mem := by
  refine ⟨fun k => if k < w.heap.size then own k else false, ?_, ?_⟩
  · refine (hv.shut.chg hc (fun k hk h => ?_)).retag fun k _ hk => ⟨.inl hk.1.1, by simp [hk.2, hk.1.2]⟩
    have := hk.1.2; rw [h.2] at this; cases this
  · refine hl.retag fun k _ hk => ?_
    by_cases h1 : k < w.heap.size
    · rcases hk with hk | hk
      · exact ⟨.inl hk.1, by simp [h1, hk.2]⟩
      · omega
    · exact ⟨.inr (by omega), by simp [h1]⟩
/-- The vault has changed. -/
theorem Sys.vault {own : Nat → Bool} (hl : LedAt w (fun k => T k ∧ own k = false) lp L) (hc : Chg (fun k => T k ∧ own k = true) w w')
    (hv : VaultAt w' (fun k => (T k ∧ own k = true) ∨ w.heap.size ≤ k) bv lp held' vals' mem') : Sys w' (fun k => T k ∨ w.heap.size ≤ k) bv lp L held' vals' mem' := by
  refine ⟨fun k => if k < w.heap.size then own k else true, ?_, ?_⟩
  · refine hv.retag fun k _ hk => ?_
    by_cases h1 : k < w.heap.size
    · rcases hk with hk | hk
      · exact ⟨.inl hk.1, by simp [h1, hk.2]⟩
      · omega
    · exact ⟨.inr (by omega), by simp [h1]⟩
  · refine (hl.shut.chg hc (fun k hk h => ?_)).retag fun k _ hk => ⟨.inl hk.1.1, by simp [hk.2, hk.1.2]⟩
    have := hk.1.2; rw [h.2] at this; cases this
end

/-- An operation, as it is handed in. -/
def opCells (k h al ct out : Int) (A : Option Addr) (n c : Nat) (B : Option Addr) (m d : Nat) : List Value := [.int .u8 k, .int .i64 h, .int .u8 al, .int .i64 ct, .int .i64 out, .slice A n c, .slice B m d]
/-- An answer. -/
def ansV (code h : Int) (s : Bool) (A : Option Addr) (n c : Nat) : Value := .agg #[.int .i64 code, .int .i64 h, .bool s, .slice A n c]

/-- What an operation of the vault leaves: its answer; the vault and its ledger; the bytes that are told lie in new memory of their own. -/
def DoPost (w : World) (T : Nat → Prop) (bv : Nat) (lp : Option Addr) (R : Int → Int → Bool → List Value → Led → List Bool → List Value → (Nat → List Value) → Prop) (e : Ending) (w' : World) : Prop :=
  ∃ code h s A n c bytes T1 X L held vals mem, e = .returned (ansV code h s A n c) ∧ Chg T w w' ∧ (∀ k, T1 k → T k ∨ w.heap.size ≤ k) ∧ Sys w' T1 bv lp L held vals mem ∧
    Row w' X 5 1 (.slice A n c) n bytes ∧ (∀ k, X k → w.heap.size ≤ k ∧ ¬ T1 k) ∧ R code h s bytes L held vals mem
/-- Do's own end: all that was changed on the way, put together. -/
theorem do_end {w W w2 W5 w6 W7 w8 w9 : World} {T T1 X : Nat → Prop} {own own7 : Nat → Bool} {bv : Nat} {lp : Option Addr} {L : Led} {held : List Bool} {vals : List Value} {mem : Nat → List Value} {A : Option Addr} {n c : Nat} {bytes : List Value}
    {R : Int → Int → Bool → List Value → Led → List Bool → List Value → (Nat → List Value) → Prop} {code h : Int} {s : Bool}
    (hC1 : Chg (fun _ => False) w W) (d4 : W.heap.size = w.heap.size + 2) (hC2 : Chg (fun k => (T k ∧ k < w.heap.size) ∧ own k = false) W.drew w2) (hC5 : Chg (fun _ => False) w2 W5) (hba : w2.heap.size < W5.heap.size)
    (hC6 : Chg (fun k => ((T k ∧ k < w.heap.size) ∨ W.heap.size ≤ k) ∧ k < w2.heap.size) W5 w6) (ht1 : ∀ k, T1 k → (((T k ∧ k < w.heap.size) ∨ W.heap.size ≤ k) ∧ k < w2.heap.size) ∨ W5.heap.size ≤ k)
    (hZC : Chg (fun b => b = w2.heap.size) w6 W7) (hv7 : VaultAt W7 (fun k => (T1 k ∧ k < W7.heap.size) ∧ own7 k = true) bv lp held vals mem)
    (hC8 : Chg (fun k => (T1 k ∧ k < W7.heap.size) ∧ own7 k = false) W7.drew w8) (hl8 : LedAt w8 (fun k => ((T1 k ∧ k < W7.heap.size) ∧ own7 k = false) ∨ W7.drew.heap.size ≤ k) lp L)
    (hC9 : Chg (fun b => b = w.heap.size + 1) w8 w9) (hrow : Row w6 X 5 1 (.slice A n c) n bytes) (hx : ∀ k, X k → W5.heap.size ≤ k ∧ ¬ T1 k) (hR : R code h s bytes L held vals mem) :
    DoPost w T bv lp R (.returned (ansV code h s A n c)) w9 := by
  have s1 : w.heap.size ≤ W.heap.size := hC1.size
  have s2 : W.heap.size ≤ w2.heap.size := hC2.size
  have s6 : W5.heap.size ≤ w6.heap.size := hC6.size
  have s7 : w6.heap.size ≤ W7.heap.size := hZC.size
  have s8 : W7.heap.size ≤ w8.heap.size := hC8.size
  have hT2 : ∀ k, T1 k → ¬ k = w.heap.size + 1 := fun k h1 e => by
    rcases ht1 k h1 with h | h
    · have h' := h.1; have := h.2; omega
    · omega
  have hT3 : ∀ k, T1 k → T k ∨ w.heap.size ≤ k := fun k h1 => by
    rcases ht1 k h1 with h | h
    · rcases h.1 with h | h
      · exact .inl h.1
      · exact .inr (by omega)
    · exact .inr (by omega)
  have hSys := (Sys.led (w := W7.drew) (T := fun k => T1 k ∧ k < W7.heap.size) (own := own7) hv7.drew hC8 hl8)
  refine ⟨code, h, s, A, n, c, bytes, fun k => (T1 k ∧ k < W7.heap.size) ∨ W7.heap.size ≤ k, fun k => X k ∧ k < W7.heap.size, L, held, vals, mem, rfl, ?_, ?_, ?_, ?_, ?_, hR⟩
  · have c1 : Chg T w W.drew := (hC1.mono fun _ _ h => h.elim).drew
    have c2 : Chg T w w2 := c1.trans hC2 fun k _ h => h.1.1
    have c5 : Chg T w W5 := c2.trans hC5 fun k _ h => h.elim
    have c6 : Chg T w w6 := c5.trans hC6 fun k hk h => by
      rcases h.1 with h | h
      · exact h.1
      · omega
    have c7 : Chg T w W7 := c6.trans hZC fun k hk h => by omega
    have c8 : Chg T w w8 := c7.drew.trans hC8 fun k hk h => by
      rcases hT3 k h.1.1 with h | h
      · exact h
      · omega
    exact c8.trans hC9 fun k hk h => by omega
  · intro k hk
    rcases hk with hk | hk
    · exact hT3 k hk.1
    · exact .inr (by omega)
  · refine hSys.chg hC9 fun k hk e => ?_
    rcases hk with hk | hk
    · exact hT2 k hk.1 e
    · have : W7.heap.size ≤ k := hk
      omega
  · have r1 : Row W7 (fun k => X k ∧ k < W7.heap.size) 5 1 (.slice A n c) n bytes := (hrow.chg hZC fun k h1 e => by have := (hx k h1).1; omega).retag fun k hk h => ⟨h, hk⟩
    have r2 : Row w8 (fun k => X k ∧ k < W7.heap.size) 5 1 (.slice A n c) n bytes := r1.drew.chg hC8 fun k h1 h2 => (hx k h1.1).2 h2.1.1
    exact r2.chg hC9 fun k h1 e => by have := (hx k h1.1).1; omega
  · intro k hk
    obtain ⟨h1, h2⟩ := hx k hk.1
    exact ⟨by omega, fun h => h.elim (fun h => h2 h.1) (fun h => by have := hk.2; omega)⟩
end Go.Proofs.YtpifjikpojikgaaGreatR
