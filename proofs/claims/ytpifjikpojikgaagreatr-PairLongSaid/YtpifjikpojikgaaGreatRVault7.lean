/- The vault: Do, at the operations of the examples. -/
import Derived.Test.YtpifjikpojikgaaGreatRVault6
namespace Go.Proofs.YtpifjikpojikgaaGreatR
open Go.RowKit

theorem DoPost.mono {w w' : World} {e : Ending} {T : Nat → Prop} {bv : Nat} {lp : Option Addr} {R R' : Int → Int → Bool → List Value → Led → List Bool → List Value → (Nat → List Value) → Prop}
    (h : DoPost w T bv lp R e w') (hR : ∀ code h s bytes L held vals mem, R code h s bytes L held vals mem → R' code h s bytes L held vals mem) : DoPost w T bv lp R' e w' := by
  obtain ⟨code, h, s, A, n, c, bytes, T1, X, L, held, vals, mem, a1, a2, a3, a4, a5, a6, a7⟩ := h
  exact ⟨code, h, s, A, n, c, bytes, T1, X, L, held, vals, mem, a1, a2, a3, a4, a5, a6, hR _ _ _ _ _ _ _ _ a7⟩

theorem noteRuns_len : ∀ (l : List Rn) (k s c : Int), (noteRuns l k s c).length ≤ l.length + 1
  | [], _, _, _ => by simp [noteRuns]
  | [r], k, s, c => by unfold noteRuns; split <;> simp
  | r :: r' :: l, k, s, c => by
    have := noteRuns_len (r' :: l) k s c
    unfold noteRuns
    simp only [List.length_cons] at *
    omega
theorem Led.note_len (L : Led) (k s n : Int) : (L.note k s n).runs.length ≤ L.runs.length + 1 := noteRuns_len _ _ _ _
theorem enters_put (args : Array Value) (w : World) : (callFunc 63 args).run Tryz.prog w = .ok (.enter 63 args) w := by kernel_rfl
theorem enters_reveal (args : Array Value) (w : World) : (callFunc 71 args).run Tryz.prog w = .ok (.enter 71 args) w := by kernel_rfl
theorem find_put (bv : Nat) : Instr.findNow (.int .u8) (.int .u8 1) (entries bv) 0 = some (some (0, .func (.func 63) #[ptr bv] #[])) := by
  rfl
theorem find_reveal (bv : Nat) : Instr.findNow (.int .u8) (.int .u8 9) (entries bv) 0 = some (some (8, .func (.func 71) #[ptr bv] #[])) := by
  rfl

theorem do_put (bv k : Nat) (lp : Option Addr) (h0 al ct out : Int) (A : Option Addr) (n c : Nat) (B : Option Addr) (m d : Nat) (xs : List Value) (L : Led) (T : Nat → Prop) (w : World) (held : List Bool) (vals : List Value) (mem : Nat → List Value)
    (hs : Sys w T bv lp L held vals mem) (hlen : L.runs.length ≤ 1099511626000) (hA : Src w A xs) (hAT : ∀ a, A = some a → ¬ T a.block) (hn : xs.length = n) (hn2 : n ≤ 512) (hx : ∀ u ∈ xs, u.oneCell' = true)
    (hk : k < 64) (hlo : ∀ j, j < k → held.getD j false = true) (hfr : held.getD k false = false) :
    Calls Tryz.prog 13 #[ptr bv, .agg (opCells 1 h0 al ct out A n c B m d).toArray] w
      (DoPost w T bv lp fun code h s bytes L' held' vals' mem' => code = 0 ∧ h = k ∧ s = false ∧ bytes = [] ∧ L' = (L.note 11 1 1).note 12 0 1 ∧ held' = held.set k true ∧ (∃ A' c', vals' = vals.set k (keyV (.slice A' n c'))) ∧
        mem' = fun h => if h = k then xs ++ List.replicate (1024 - n) (.int .u8 0) else mem h) := by
  refine (do_of bv 0 _ lp 1 h0 al ct out A n c B m d L T w held vals mem hs (by omega) (by omega) (by omega) (find_put bv) enters_put _ ?_
    (fun W T' hc hT hS => put_key bv k lp 1 h0 al ct out A n c B m d xs _ T' W held vals mem hS (hA.chg hc hAT) hn hn2 hx hk hlo hfr)).mono ?_
  · rintro code h s bytes L' held' vals' mem' ⟨_, _, _, _, rfl, _⟩
    have := L.note_len 11 1 1
    omega
  · intro e w' hd
    refine hd.mono ?_
    rintro code h s bytes L' held' vals' mem' ⟨h1, s1, b1, L1, ⟨rfl, rfl, rfl, rfl, rfl, hh, hv, hm⟩, rfl, hz, hnz⟩
    obtain ⟨rfl, rfl, rfl⟩ := hz rfl
    exact ⟨rfl, rfl, rfl, rfl, rfl, hh, hv, hm⟩

theorem do_reveal_not (bv : Nat) (lp : Option Addr) (h0 al ct out : Int) (A : Option Addr) (n c : Nat) (B : Option Addr) (m d : Nat) (L : Led) (T : Nat → Prop) (w : World) (held : List Bool) (vals : List Value) (mem : Nat → List Value)
    (hs : Sys w T bv lp L held vals mem) (hlen : L.runs.length ≤ 1099511626000) (hf : isHeld held h0 = false) :
    Calls Tryz.prog 13 #[ptr bv, .agg (opCells 9 h0 al ct out A n c B m d).toArray] w
      (DoPost w T bv lp fun code h s bytes L' held' vals' mem' => code = 5 ∧ h = 0 ∧ s = false ∧ bytes = [] ∧ L' = (L.note 11 9 1).note 12 5 1 ∧ held' = held ∧ vals' = vals ∧ mem' = mem) := by
  refine (do_of bv 8 _ lp 9 h0 al ct out A n c B m d L T w held vals mem hs (by omega) (by omega) (by omega) (find_reveal bv) enters_reveal _ ?_
    (fun W T' hc hT hS => reveal_not bv lp 9 h0 al ct out A n c B m d _ T' W held vals mem hS hf)).mono ?_
  · rintro code h s bytes L' held' vals' mem' ⟨_, _, _, _, rfl, _⟩
    have := L.note_len 11 9 1
    omega
  · intro e w' hd
    refine hd.mono ?_
    rintro code h s bytes L' held' vals' mem' ⟨h1, s1, b1, L1, ⟨rfl, rfl, rfl, rfl, rfl, hh, hv, hm⟩, rfl, hz, hnz⟩
    obtain ⟨rfl, rfl, rfl⟩ := hnz (by decide)
    exact ⟨rfl, rfl, rfl, rfl, rfl, hh, hv, hm⟩

theorem do_reveal_key (bv k : Nat) (lp : Option Addr) (al ct out : Int) (A : Option Addr) (n c : Nat) (B : Option Addr) (m d : Nat) (A' : Option Addr) (n' c' : Nat) (L : Led) (T : Nat → Prop) (w : World) (held : List Bool) (vals : List Value) (mem : Nat → List Value)
    (hs : Sys w T bv lp L held vals mem) (hlen : L.runs.length ≤ 1099511626000) (hk : k < 64) (hq : held.getD k false = true) (hvk : vals[k]? = some (keyV (.slice A' n' c'))) (hn : n' ≤ 512) (hx : ∀ u ∈ (mem k).take n', u.oneCell' = true) :
    Calls Tryz.prog 13 #[ptr bv, .agg (opCells 9 k al ct out A n c B m d).toArray] w
      (DoPost w T bv lp fun code h s bytes L' held' vals' mem' => code = 0 ∧ h = 0 ∧ s = false ∧ bytes = (mem k).take n' ∧ L' = (L.note 11 9 1).note 12 0 1 ∧ held' = held ∧ vals' = vals ∧ mem' = mem) := by
  refine (do_of bv 8 _ lp 9 k al ct out A n c B m d L T w held vals mem hs (by omega) (by omega) (by omega) (find_reveal bv) enters_reveal _ ?_
    (fun W T' hc hT hS => reveal_key bv k lp 9 al ct out A n c B m d A' n' c' _ T' W held vals mem hS hk hq hvk hn hx)).mono ?_
  · rintro code h s bytes L' held' vals' mem' ⟨_, _, _, _, rfl, _⟩
    have := L.note_len 11 9 1
    omega
  · intro e w' hd
    refine hd.mono ?_
    rintro code h s bytes L' held' vals' mem' ⟨h1, s1, b1, L1, ⟨rfl, rfl, rfl, rfl, rfl, hh, hv, hm⟩, rfl, hz, hnz⟩
    obtain ⟨rfl, rfl, rfl⟩ := hz rfl
    exact ⟨rfl, rfl, rfl, rfl, rfl, hh, hv, hm⟩
end Go.Proofs.YtpifjikpojikgaaGreatR
