/- pair.seen's closure: the iterator that plays a script on a vault of its own. -/
import Derived.Test.YtpifjikpojikgaaGreatRPair1
import Derived.Shelf.RegionOpen
import Derived.TacticsInMore
import Derived.OwnWalkIn
namespace Go.Proofs.YtpifjikpojikgaaGreatR
open Go.RowKit
attribute [local go_sem ↓] Go.wp_at_zero Go.wp_at_succ

/-- An operation's fields. -/
structure OpV where
  k : Int
  h : Int
  al : Int
  ct : Int
  out : Int
  A : Option Addr
  n : Nat
  c : Nat
  B : Option Addr
  m : Nat
  d : Nat
def OpV.cells (o : OpV) : List Value := opCells o.k o.h o.al o.ct o.out o.A o.n o.c o.B o.m o.d
def opsCells (ops : Nat → OpV) (n : Nat) : List Value := (List.range n).flatMap fun i => (ops i).cells
theorem opsCells_len (ops : Nat → OpV) (n : Nat) : (opsCells ops n).length = n * 7 := by
  induction n with
  | zero => rfl
  | succ n ih =>
    unfold opsCells at *
    rw [List.range_succ, List.flatMap_append, List.length_append, ih]
    simp [OpV.cells, opCells]
    omega
theorem opsCells_get (ops : Nat → OpV) (n i j : Nat) (hi : i < n) (hj : j < 7) : (opsCells ops n)[i * 7 + j]? = (ops i).cells[j]? := by
  induction n with
  | zero => omega
  | succ n ih =>
    have hl := opsCells_len ops n
    unfold opsCells at *
    rw [List.range_succ, List.flatMap_append]
    by_cases h : i < n
    · rw [List.getElem?_append_left (by omega)]
      exact ih h
    · obtain rfl : i = n := by omega
      rw [List.getElem?_append_right (by omega), hl]
      simp

/-- What a script does, step by step: the ops' cells; the state between two; the code and the events of each. -/
structure Script where
  n : Nat
  ops : Nat → OpV
  St : Nat → Led → List Bool → List Value → (Nat → List Value) → Prop
  code : Nat → Int
  seg : Nat → List Rn

/-- The script is played so, in whatever world in which V lies as it lay in w. -/
structure Script.Plays (s : Script) (V : Blocks) (w : World) : Prop where
  start : s.St 0 ⟨[], 0⟩ (List.replicate 64 false) (List.replicate 64 .nilIface) (fun _ => zeros)
  bound : ∀ i L held vals mem, s.St i L held vals mem → L.runs.length ≤ 1099511626000 ∧ 0 ≤ L.n ∧ L.n ≤ 4611686018427387904
  seg1 : ∀ i, i < s.n → s.seg i ≠ [] ∧ ∀ r ∈ s.seg i, 1 ≤ r.count
  step : ∀ i, i < s.n → ∀ L held vals mem W T bv lp, s.St i L held vals mem → Chg (fun k => ¬ V k) w W → (∀ k, T k → ¬ V k) → Sys W T bv lp L held vals mem →
    Calls Tryz.prog 13 #[ptr bv, .agg (s.ops i).cells.toArray] W (DoPost W T bv lp fun c _ _ _ L' held' vals' mem' =>
      c = s.code i ∧ s.St (i + 1) L' held' vals' mem' ∧ L'.runs = L.runs ++ s.seg i ∧ L'.n = L.n + tot (s.seg i))

theorem RoundPost.bool {V U X : Blocks} {W W' : World} {J Jx : Blocks → World → Prop} {e : Ending} (h : RoundPost V U X W J Jx e W') :
    ∃ (b : Bool) (U' : Blocks), e = .returned (.bool b) ∧ (∀ k, U' k → (U k ∨ X k ∨ W.heap.size ≤ k) ∧ k < W'.heap.size) ∧ Chg (fun k => U k ∧ ¬ V k) W W' ∧ (b = true → J U' W') ∧ (b = false → Jx U' W') := by
  obtain ⟨U', h1, h2, ⟨rfl, h3⟩ | ⟨rfl, h3⟩⟩ := h
  · exact ⟨true, U', rfl, h1, h2, fun _ => h3, (fun h => nomatch h)⟩
  · exact ⟨false, U', rfl, h1, h2, (fun h => nomatch h), fun _ => h3⟩

/-- What a round is handed. -/
def SeenY (s : Script) (i : Nat) (vs : Array Value) (X : Blocks) (W : World) : Prop :=
  ∃ A c, vs = #[.int .i64 (s.code i), .slice A (s.seg i).length c] ∧ Row W X 56 3 (.slice A (s.seg i).length c) (s.seg i).length (rnCells (s.seg i))

/-- The iterator between two rounds. -/
def SeenInv (s : Script) (V : Blocks) (w : World) (bl bv : Nat) (J : Nat → Blocks → World → Prop) (i : Nat) (W : World) : Prop :=
  ∃ U T L held vals mem, J i U W ∧ (∀ k, U k → k < W.heap.size) ∧ Chg (fun k => ¬ V k) w W ∧ (∀ k, T k → ¬ V k ∧ ¬ U k) ∧ Sys W T bv (some ⟨bl, 0, none⟩) L held vals mem ∧ s.St i L held vals mem

set_option maxRecDepth 100000 in
set_option maxHeartbeats 1600000 in
theorem seen1_seq (s : Script) (V : Blocks) (w : World) (B : Nat) (A : Option Addr) (c : Nat) (hp : s.Plays V w) (hn : s.n ≤ 1099511627776)
    (hB : w.cell? ⟨B, 0, none⟩ = some (.slice A s.n c)) (hVB : V B) (hVw : ∀ k, V k → k < w.heap.size)
    (hA : Src w A (opsCells s.ops s.n)) (hVA : ∀ a, A = some a → V a.block) :
    SeqC Tryz.prog 75 #[.pointer (some ⟨B, 0, none⟩)] s.n V (SeenY s) w := by
  intro l J Jx U0 W hW hJ hJx hY hU0 h0
  have HP := Lib.hid hp
  have HW := Lib.hid hW
  have HJ := Lib.hid hJ
  have HJX := Lib.hid hJx
  have HY := Lib.hid hY
  have HU := Lib.hid hU0
  have H0 := Lib.hid h0
  have HA := Lib.hid hA
  have HVA := Lib.hid hVA
  have hBl := World.block_lt_of_cell? w _ hB
  have hVlt : ∀ k, V k → k < W.heap.size := fun k h => Nat.lt_of_lt_of_le (hVw k h) hW.size
  have hB' : W.cell? ⟨B, 0, none⟩ = some (.slice A s.n c) := (World.cell?_of_block (hW.block B hBl (fun h => h hVB))).trans hB
  have hB2 : Hid (∀ W2, Below W.heap.size W W2 → W2.cell? ⟨B, 0, none⟩ = some (.slice A s.n c)) := Lib.hid fun W2 h => (h.cell (p := ⟨B, 0, none⟩) (Nat.lt_of_lt_of_le hBl hW.size)).trans hB'
  clear hp hW hJ hJx hY hU0 h0 hA hVA hB hB'
  go_enter Tryz.func75, Tryz.ntmps75
  go_wp2_with fail
  refine (ledgerNew_any W).mono ?_
  rintro e w1 ⟨rfl, rfl⟩
  go_wp2_with fail
  refine (vaultNew_any (some ⟨W.heap.size, 0, none⟩) _).mono ?_
  rintro e w2 ⟨bv, rfl, hb2, hv2⟩
  have hBW : Below W.heap.size W w2 := ((Below.refl _ W).alloc (Nat.le_refl _) _).trans (hb2.mono (by simp))
  have cB := hB2.out w2 hBW
  have hst : Hid (SeenInv s V w W.heap.size bv J 0 w2) := by
    refine Lib.hid ⟨U0, fun k => W.heap.size ≤ k, ⟨[], 0⟩, _, _, _, HJ.out 0 _ _ _ H0.out (Chg.of_below hBW), fun k h => Nat.lt_of_lt_of_le (HU.out k h) hBW.size, HW.out.trans (Chg.of_below (S := fun _ => False) hBW) (fun _ _ h => h.elim), fun k hk => ⟨fun h => by have := hVlt k h; omega, fun h => by have := HU.out k h; omega⟩, ⟨fun k => decide (k ≠ W.heap.size), ?_, ?_⟩, HP.out.start⟩
    · exact hv2.retag fun k _ hk => ⟨by simp at hk; omega, by simp at hk; simp; omega⟩
    · intro a ha
      cases ha
      exact ⟨_, .slice none 0 0, rfl, ⟨Nat.le_refl _, by simp⟩, (Blk.new W _ _).chg (Chg.of_below (S := fun _ => False) hb2) (fun h => h), Row.nil _ _ _ _, fun _ => rfl⟩
  clear hb2 hv2 hBW hB2
  go_wp2_with fail
  go_loopw [14] (fun i wr => ∃ k : Nat, k ≤ s.n ∧ i = .int .i64 k ∧ Hid (SeenInv s V w W.heap.size bv J k wr)) (fun i _ => s.n - (intOf i).toNat)
  case atStart => exact ⟨0, Nat.zero_le _, rfl, hst⟩
  case round =>
    clear hst
    obtain ⟨k, hk, rfl, hw⟩ := hrel
    by_cases hlt : k < s.n
    · obtain ⟨U, T, L, held, vals, mem, hj, hUb, hcV, hT, hS, hSt⟩ := hw.out
      have hne : opsCells s.ops s.n ≠ [] := by
        intro h
        have := congrArg List.length h
        rw [opsCells_len] at this
        simp at this; omega
      obtain ⟨g, o, rfl, hg⟩ := HA.out.form hne
      have hcell : ∀ j v, j < 7 → (s.ops k).cells[j]? = some v → wr.cell? ⟨g, o + k * 7 + j, none⟩ = some v := fun j v hj' hv => by
        have h1 := hg (k * 7 + j) v (by rw [opsCells_get _ _ _ _ hlt hj']; exact hv)
        have h2 := hcV.block g (World.block_lt_of_cell? w _ h1) (fun h => h (HVA.out _ rfl))
        rw [show o + k * 7 + j = o + (k * 7 + j) by omega]
        exact (World.cell?_of_block (w := w) (a := ⟨g, o + (k * 7 + j), none⟩) h2).trans h1
      have a0 : wr.cell? ⟨g, o + k * 7, none⟩ = some _ := hcell 0 _ (by omega) rfl
      have a1 := hcell 1 _ (by omega) rfl
      have a2 := hcell 2 _ (by omega) rfl
      have a3 := hcell 3 _ (by omega) rfl
      have a4 := hcell 4 _ (by omega) rfl
      have a5 := hcell 5 _ (by omega) rfl
      have a6 := hcell 6 _ (by omega) rfl
      have HST := Lib.hid hSt
      have HS := Lib.hid hS
      have HT := Lib.hid hT
      have HCV := Lib.hid hcV
      have HJK := Lib.hid hj
      have HUB := Lib.hid hUb
      have hbd := HP.out.bound _ _ _ _ _ hSt
      clear hcell hg hne hSt hS hT hcV hj hw hUb
      have hMK : ∀ W', Chg (fun _ => False) wr W' → Calls Tryz.prog 25 #[.pointer (some ⟨W.heap.size, 0, none⟩)] W' fun e w' => e = .returned (.int .i64 L.n) ∧ W' = w' := fun W' hc => by
        obtain ⟨own, h1, h2⟩ := HS.out
        exact (mark_any _ L _ W' (h2.chg hc (fun _ _ h => h)))
      have HMK := Lib.hid hMK
      have hDO : ∀ W', Chg (fun _ => False) wr W' → _ := fun W' hc => HP.out.step k hlt L held vals mem W' T bv (some ⟨W.heap.size, 0, none⟩) HST.out (HCV.out.trans hc (fun _ _ h => h.elim)) (fun j h => (HT.out j h).1) (HS.out.chg hc (fun _ _ h => h))
      have HDO := Lib.hid hDO
      clear hMK hDO
      generalize hop : s.ops k = op at a0 a1 a2 a3 a4 a5 a6 HDO
      have q0 : (0 : Int) ≤ (k : Int) := by omega
      have q1 : (k : Int) < (s.n : Int) := by omega
      have q2 : IntKind.i64.wrap ((k : Int) + 1) = (k : Int) + 1 := IntWalk.i64_in _ (by omega)
      go_wp2_with fail
      refine (HMK.out _ ((Chg.refl _ wr).alloc _)).mono ?_
      rintro e w3 ⟨rfl, rfl⟩
      go_wp2_with fail
      refine (HDO.out _ ((Chg.refl _ wr).alloc _)).mono ?_
      rintro e w4 ⟨cd, ah, as4, A4, n4, c4, bytes, T1, X4, L1, held1, vals1, mem1, rfl, hc4, hT1, hS4, _, _, hcd, hSt1, hr1, hn1⟩
      subst hcd
      have hs4 := hc4.size
      simp only [World.size_alloc] at hs4 hT1
      have hcw4 : Chg T wr w4 := ((Chg.refl T wr).alloc _).trans hc4 (fun _ _ h => h)
      have HC4 := Lib.hid hcw4
      have HS4 := Lib.hid hS4.shut
      have HT1 := Lib.hid hT1
      have HST1 := Lib.hid hSt1
      have hbd1 := HP.out.bound _ _ _ _ _ hSt1
      have HR1 := Lib.hid hr1
      have HN1 := Lib.hid hn1
      clear hc4 hT1 hS4 hSt1 hr1 hn1 a0 a1 a2 a3 a4 a5 a6 hcw4
      unfold ansV
      go_wp2_with fail
      generalize hW5 : World.alloc w4 _ = w5
      have d0 : w5.cell? ⟨w4.heap.size, 0, none⟩ = some (.int .i64 (s.code k)) := by rw [← hW5]; exact (Blk.new w4 _ _).cell 0
      have HC5 : Hid (Chg (fun _ => False) w4 w5) := by rw [← hW5]; exact (Chg.refl _ w4).alloc _
      have hs5 : w5.heap.size = w4.heap.size + 1 := by rw [← hW5]; simp
      clear hW5
      have hSI : ∀ W', Below w5.heap.size w5 W' → Calls Tryz.prog 32 #[.pointer (some ⟨W.heap.size, 0, none⟩), .int .i64 L.n] W' (SinceEnd W' (s.seg k)) := fun W' hb => by
        obtain ⟨own, h1, h2⟩ := (HS4.out.chg HC5.out (fun _ _ h => h)).chg (Chg.of_below (S := fun _ => False) hb) (fun _ _ h => h)
        exact since_led _ L1 L.runs (s.seg k) L.n _ W' h2 HR1.out HN1.out hbd.2.1 hbd1.2.2 (by omega) (HP.out.seg1 k hlt).2 (HP.out.seg1 k hlt).1
      have HSI := Lib.hid hSI
      have hYD : ∀ W' A' c', Below w5.heap.size w5 W' → Row W' (fun k => w5.heap.size ≤ k) 56 3 (.slice A' (s.seg k).length c') (s.seg k).length (rnCells (s.seg k)) →
          YieldAt Fence.wide (3 - 1) Tryz.prog l #[.int .i64 (s.code k), .slice A' (s.seg k).length c'] W' (RoundPost V U (fun k => w5.heap.size ≤ k) W' (J (k + 1)) (Jx (k + 1))) := fun W' A' c' hb hrow =>
        HY.out _ k U _ _ W' hlt (HJ.out k U wr W' HJK.out (((HC4.out.mono (fun j _ h h' => (HT.out j h).2 h')).trans HC5.out (fun _ _ h => h.elim)).trans (Chg.of_below (S := fun _ => False) hb) (fun _ _ h => h.elim))) ⟨A', c', rfl, hrow⟩
          (fun j h => ⟨fun h' => by have := HUB.out j h'; omega, fun h' => by have := hVw j h'; have := HCV.out.size; omega⟩)
      have HYD := Lib.hid hYD
      clear hSI hYD
      refine wpIn_wide (n := 3).1 ?_
      have hmx : Tryz.prog.follows .mixedOrders = true := by kernel_rfl
      have hdp : Fence.wide.depth.isSome = true → 1 ≤ 3 := fun _ => by omega
      have hfn : ∀ f, Fence.wide.fn f := fun _ => trivial
      gi_region_with_o (first
        | (gi_at_call 32; refine (callsIn_wide.2 (HSI.out _ ((Below.refl _ w5).drew))).mono ?_; rintro e w6 ⟨A6, c6, rfl, hr6, hb6⟩; obtain ⟨fn, tmps, assign, body, hy, hR⟩ := HYD.out _ _ _ (((Below.refl _ w5).drew).trans hb6) hr6; have d6 : w6.cell? ⟨w4.heap.size, 0, none⟩ = some (.int .i64 (s.code k)) := (hb6.cell (p := ⟨w4.heap.size, 0, none⟩) (by simp; omega)).trans d0)
        | (with_reducible refine RoundIn.mono hR ?_; rintro e w7 hround; obtain ⟨bb, U7, rfl, hU7, hc7, ht7, hf7⟩ := hround.bool)
        | (with_reducible refine And.intro trivial ?_))
      all_goals
        have hcV7 : Chg (fun j => ¬ V j) w w7 := ((((HCV.out.trans HC4.out (fun j _ h => (HT.out j h).1)).trans HC5.out (fun _ _ h => h.elim)).drew).trans (Chg.of_below (S := fun j => ¬ V j) hb6) (fun _ _ h => h)).trans hc7 (fun _ _ h => h.2)
        have hs6 := hb6.size
        have hs6' : w5.heap.size ≤ w6.heap.size := hs6
        have hT7 : ∀ j, (T1 j ∧ j < w4.heap.size) → ¬ V j ∧ ¬ U j := fun j h => by
          rcases HT1.out j h.1 with h1 | h1
          · exact HT.out j h1
          · exact ⟨fun h2 => by have := hVlt j h2; have := HCV.out.size; have h5 := hVw j h2; omega, fun h2 => by have := HUB.out j h2; omega⟩
        have hS7 := Lib.hid ((((HS4.out.chg HC5.out (fun _ _ h => h)).chg ((Chg.refl (fun _ => False) w5).drew) (fun _ _ h => h)).chg (Chg.of_below (S := fun _ => False) hb6) (fun _ _ h => h)).chg hc7 (fun j h h2 => (hT7 j h).2 h2.1))
        have hTU7 : ∀ j, (T1 j ∧ j < w4.heap.size) → ¬ V j ∧ ¬ U7 j := fun j h => ⟨(hT7 j h).1, fun h2 => by
          rcases (hU7 j h2).1 with h3 | h3 | h3
          · exact (hT7 j h).2 h3
          · have := h.2; omega
          · have := h.2; omega⟩
        have HF7 := Lib.hid hf7
        have HR7 := Lib.hid (And.intro ht7 (And.intro hU7 (And.intro hTU7 hcV7)))
        clear hy hR hround hcV7 hT7 hTU7 ht7 hf7 hU7 hc7 d0 d6
        cases bb
        · go_wp2_with fail
          refine bodyPost_ret (results_none rfl _ _ _) rfl ?_
          exact ⟨⟨_, rfl⟩, U7, .inr ⟨k, hlt, HF7.out trivial⟩⟩
        · go_wp2_with fail
          go_roundw
          case rel =>
            obtain ⟨ht7, hU7, hTU7, hcV7⟩ := HR7.out
            exact ⟨k + 1, by omega, by go_num, Lib.hid ⟨U7, fun j => T1 j ∧ j < w4.heap.size, L1, held1, vals1, mem1, ht7 rfl, fun j h => (hU7 j h).2, hcV7, hTU7, hS7.out, HST1.out⟩⟩
          case measure => simp [intOf]; omega
    · obtain rfl : k = s.n := by omega
      go_wp2_with fail
      go_end0
      obtain ⟨U, T, L, held, vals, mem, hj, _⟩ := hw.out
      exact ⟨⟨_, rfl⟩, U, .inl hj⟩
end Go.Proofs.YtpifjikpojikgaaGreatR
