/- pair.Run. -/
import Derived.Test.YtpifjikpojikgaaGreatRPair3
namespace Go.Proofs.YtpifjikpojikgaaGreatR
open Go.RowKit
attribute [local go_sem ↓] Go.wp_at_zero Go.wp_at_succ

/-- A script that is run: the state between two steps; what each answers. -/
structure Play where
  n : Nat
  ops : Nat → OpV
  St : Nat → Led → List Bool → List Value → (Nat → List Value) → Prop
  An : Nat → Int → Int → Bool → List Value → Prop
structure Play.Goes (s : Play) (w : World) : Prop where
  start : s.St 0 ⟨[], 0⟩ (List.replicate 64 false) (List.replicate 64 .nilIface) (fun _ => zeros)
  bound : ∀ i L held vals mem, s.St i L held vals mem → L.runs.length ≤ 1099511626000
  step : ∀ i, i < s.n → ∀ L held vals mem W T bv lp, s.St i L held vals mem → Below w.heap.size w W → (∀ k, T k → w.heap.size ≤ k) → Sys W T bv lp L held vals mem →
    Calls Tryz.prog 13 #[ptr bv, .agg (s.ops i).cells.toArray] W (DoPost W T bv lp fun c h st bytes L' held' vals' mem' => s.An i c h st bytes ∧ s.St (i + 1) L' held' vals' mem')
structure AnsR where
  code : Int
  h : Int
  s : Bool
  A : Option Addr
  n : Nat
  c : Nat
  bytes : List Value
def AnsR.cells (a : AnsR) : List Value := [.int .i64 a.code, .int .i64 a.h, .bool a.s, .slice a.A a.n a.c]
def RunGot (s : Play) (i : Nat) (ov : Value) (az : Nat → AnsR) (U : Blocks) (W : World) : Prop :=
  Row W U 40 4 ov i ((List.range i).flatMap fun j => (az j).cells) ∧ ∀ j, j < i → s.An j (az j).code (az j).h (az j).s (az j).bytes ∧ Row W U 5 1 (.slice (az j).A (az j).n (az j).c) (az j).n (az j).bytes
def RunInv (s : Play) (w : World) (bl bv : Nat) (i : Nat) (ov : Value) (W : World) : Prop :=
  ∃ U T L held vals mem az, RunGot s i ov az U W ∧ Below w.heap.size w W ∧ (∀ k, T k → w.heap.size ≤ k) ∧ (∀ k, U k → w.heap.size ≤ k ∧ ¬ T k ∧ k < W.heap.size) ∧ Sys W T bv (some ⟨bl, 0, none⟩) L held vals mem ∧ s.St i L held vals mem
def RunPost (s : Play) (w : World) (e : Ending) (w' : World) : Prop :=
  ∃ ov az L held vals mem A cap, e = .returned (.tuple #[ov, .slice A L.runs.length cap]) ∧ s.St s.n L held vals mem ∧ RunGot s s.n ov az (fun k => w.heap.size ≤ k) w' ∧
    Row w' (fun k => w.heap.size ≤ k) 56 3 (.slice A L.runs.length cap) L.runs.length (rnCells L.runs) ∧ Below w.heap.size w w'
theorem ans_info : (Tryz.prog.info? 40).map (fun i => (i.zero, i.size, i.bytes)) = some (some (.agg #[.int .i64 0, .int .i64 0, .bool false, .slice none 0 0]), 4, 48) := by kernel_rfl

theorem RunInv.step {s : Play} {w wr w4 w5 : World} {bl bv k n4 c4 cap : Nat} {ov : Value} {az : Nat → AnsR} {U T T1 X4 : Blocks} {cd ah : Int} {as4 : Bool} {A4 A5 : Option Addr} {bytes : List Value} {L1 : Led} {held1 : List Bool} {vals1 : List Value} {mem1 : Nat → List Value}
    (hg : RunGot s k ov az U wr) (hb : Below w.heap.size w wr) (hT : ∀ k, T k → w.heap.size ≤ k) (hU : ∀ k, U k → w.heap.size ≤ k ∧ ¬ T k ∧ k < wr.heap.size)
    (hc4 : Chg T wr w4) (hT1 : ∀ k, T1 k → T k ∨ wr.heap.size + 1 ≤ k) (hS4 : Sys w4 T1 bv (some ⟨bl, 0, none⟩) L1 held1 vals1 mem1)
    (hr4 : Row w4 X4 5 1 (.slice A4 n4 c4) n4 bytes) (hX : ∀ k, X4 k → wr.heap.size + 1 ≤ k ∧ ¬ T1 k) (hAn : s.An k cd ah as4 bytes) (hSt : s.St (k + 1) L1 held1 vals1 mem1)
    (hr5 : Row w5 (fun j => U j ∨ j = (w4.alloc (.cells #[.int .i64 cd, .int .i64 ah, .bool as4, .slice A4 n4 c4] 40)).heap.size) 40 4 (.slice A5 (k + 1) cap) (k + 1) (((List.range k).flatMap fun j => (az j).cells) ++ [.int .i64 cd, .int .i64 ah, .bool as4, .slice A4 n4 c4]))
    (hg5 : (w4.alloc (.cells #[.int .i64 cd, .int .i64 ah, .bool as4, .slice A4 n4 c4] 40)).grownBy w5 ov.ownBlock) : RunInv s w bl bv (k + 1) (.slice A5 (k + 1) cap) w5 := by
  obtain ⟨g1, g2⟩ := hg
  have s4 := hc4.size
  have s5 := hg5.size
  rw [World.size_alloc] at s5 hr5
  have r1 := g1.chg hc4 (fun j h => (hU j h).2.1)
  have hc5 : Chg (fun j => U j) w4 w5 := ((Chg.refl _ w4).alloc _).grown hg5 (fun j hj => .inl (g1.2 j hj))
  refine ⟨fun j => (U j ∨ X4 j ∨ w4.heap.size ≤ j) ∧ j < w5.heap.size, fun j => T1 j ∧ j < w4.heap.size, L1, held1, vals1, mem1, fun j => if j = k then ⟨cd, ah, as4, A4, n4, c4, bytes⟩ else az j, ⟨?_, ?_⟩, ?_, ?_, ?_, ?_, hSt⟩
  · have e : ((List.range (k + 1)).flatMap fun j => (if j = k then ⟨cd, ah, as4, A4, n4, c4, bytes⟩ else az j : AnsR).cells) = ((List.range k).flatMap fun j => (az j).cells) ++ [.int .i64 cd, .int .i64 ah, .bool as4, .slice A4 n4 c4] := by
      rw [List.range_succ, List.flatMap_append]
      congr 1
      · rw [List.flatMap_def, List.flatMap_def]
        congr 1
        refine List.map_congr_left fun j hj => ?_
        have : j ≠ k := by have := List.mem_range.1 hj; omega
        simp [this]
      · simp [AnsR.cells]
    rw [e]
    refine hr5.retag fun j hj h => ⟨?_, hj⟩
    rcases h with h | h
    · exact .inl h
    · exact .inr (.inr (by omega))
  · intro j hj
    by_cases e : j = k
    · subst e
      simp only [if_true]
      refine ⟨hAn, ((hr4.alloc _).other (r1.alloc _) (by decide) hg5).retag fun i hi h => ⟨.inr (.inl h), hi⟩⟩
    · simp only [e, if_false]
      obtain ⟨h1, h2⟩ := g2 j (by omega)
      exact ⟨h1, (((h2.chg hc4 (fun j h => (hU j h).2.1)).alloc _).other (r1.alloc _) (by decide) hg5).retag fun i hi h => ⟨.inl h, hi⟩⟩
  · exact ((hb.trans (show Below w.heap.size wr w4 from ⟨hc4.os, hc4.tape, hc4.output, hc4.size, fun i hi => hc4.block i (Nat.lt_of_lt_of_le hi hb.size) (fun h => by have := hT i h; omega)⟩)).alloc (by have := hb.size; omega) _).grown hg5 (by rw [World.size_alloc]; have := hb.size; omega) (fun j hj => (hU j (g1.2 j hj)).1)
  · intro j h
    have := hb.size
    rcases hT1 j h.1 with h1 | h1
    · exact hT j h1
    · omega
  · rintro j ⟨h, hj⟩
    have := hb.size
    refine ⟨?_, fun ht => ?_, hj⟩
    · rcases h with h | h | h
      · exact (hU j h).1
      · have := (hX j h).1; omega
      · omega
    · rcases h with h | h | h
      · rcases hT1 j ht.1 with h1 | h1
        · exact (hU j h).2.1 h1
        · have := (hU j h).2.2; omega
      · exact (hX j h).2 ht.1
      · have := ht.2; omega
  · refine hS4.shut.chg hc5 (fun j h h2 => ?_)
    rcases hT1 j h.1 with h1 | h1
    · exact (hU j h2).2.1 h1
    · have := (hU j h2).2.2; omega

set_option maxRecDepth 100000 in
set_option maxHeartbeats 1600000 in
theorem run_any (s : Play) (A : Option Addr) (c : Nat) (w : World) (hp : s.Goes w) (hn : s.n ≤ 1099511627776) (hA : Src w A (opsCells s.ops s.n)) (hAl : ∀ a, A = some a → a.block < w.heap.size) :
    Calls Tryz.prog 54 #[.slice A s.n c] w (RunPost s w) := by
  have HP := Lib.hid hp
  have HA := Lib.hid hA
  have HAL := Lib.hid hAl
  clear hp hA hAl
  go_enter Tryz.func54, Tryz.ntmps54
  go_wp2_with fail
  refine (ledgerNew_any w).mono ?_
  rintro e w1 ⟨rfl, rfl⟩
  go_wp2_with fail
  refine (vaultNew_any (some ⟨w.heap.size, 0, none⟩) _).mono ?_
  rintro e w2 ⟨bv, rfl, hb2, hv2⟩
  have hBW : Below w.heap.size w w2 := ((Below.refl _ w).alloc (Nat.le_refl _) _).trans (hb2.mono (by simp))
  have hst : Hid (RunInv s w w.heap.size bv 0 (.slice none 0 0) w2) := by
    refine Lib.hid ⟨fun _ => False, fun k => w.heap.size ≤ k, ⟨[], 0⟩, _, _, _, fun _ => ⟨0, 0, false, none, 0, 0, []⟩, ⟨Row.nil _ _ _ _, fun j hj => by omega⟩, hBW, fun k h => h, fun k h => h.elim, ⟨fun k => decide (k ≠ w.heap.size), ?_, ?_⟩, HP.out.start⟩
    · exact hv2.retag fun k _ hk => ⟨by simp at hk; omega, by simp at hk; simp; omega⟩
    · intro a ha
      cases ha
      exact ⟨_, .slice none 0 0, rfl, ⟨Nat.le_refl _, by simp⟩, (Blk.new w _ _).chg (Chg.of_below (S := fun _ => False) hb2) (fun h => h), Row.nil _ _ _ _, fun _ => rfl⟩
  clear hb2 hv2 hBW
  obtain ⟨i0, hi0, hz0, hz1, hz2⟩ := info_parts ans_info
  go_wp2_with fail
  go_loopw [6, 14] (fun ov i wr => ∃ k : Nat, k ≤ s.n ∧ i = .int .i64 k ∧ Hid (RunInv s w w.heap.size bv k ov wr)) (fun _ i _ => s.n - (intOf i).toNat)
  case atStart => exact ⟨0, Nat.zero_le _, rfl, hst⟩
  case round =>
    clear hst
    obtain ⟨k, hk, rfl, hw⟩ := hrel
    obtain ⟨U, T, L, held, vals, mem, az, hg, hb, hT, hU, hS, hSt⟩ := hw.out
    by_cases hlt : k < s.n
    · have hne : opsCells s.ops s.n ≠ [] := by
        intro h
        have := congrArg List.length h
        rw [opsCells_len] at this
        simp at this; omega
      obtain ⟨g, o, rfl, hg'⟩ := HA.out.form hne
      have hcell : ∀ j v, j < 7 → (s.ops k).cells[j]? = some v → wr.cell? ⟨g, o + k * 7 + j, none⟩ = some v := fun j v hj' hv => by
        have h1 := hg' (k * 7 + j) v (by rw [opsCells_get _ _ _ _ hlt hj']; exact hv)
        rw [show o + k * 7 + j = o + (k * 7 + j) by omega]
        exact (hb.cell (p := ⟨g, o + (k * 7 + j), none⟩) (HAL.out ⟨g, o, none⟩ rfl)).trans h1
      have a0 : wr.cell? ⟨g, o + k * 7, none⟩ = some _ := hcell 0 _ (by omega) rfl
      have a1 := hcell 1 _ (by omega) rfl
      have a2 := hcell 2 _ (by omega) rfl
      have a3 := hcell 3 _ (by omega) rfl
      have a4 := hcell 4 _ (by omega) rfl
      have a5 := hcell 5 _ (by omega) rfl
      have a6 := hcell 6 _ (by omega) rfl
      have HG := Lib.hid hg
      have HB := Lib.hid hb
      have HT := Lib.hid hT
      have HU := Lib.hid hU
      have HS := Lib.hid hS
      have HST := Lib.hid hSt
      have hDO : ∀ W', Below wr.heap.size wr W' → _ := fun W' hc => HP.out.step k hlt L held vals mem W' T bv (some ⟨w.heap.size, 0, none⟩) HST.out (HB.out.trans (hc.mono HB.out.size)) HT.out (HS.out.chg (Chg.of_below (S := fun _ => False) hc) (fun _ _ h => h))
      have HDO := Lib.hid hDO
      clear hcell hg' hne hg hb hT hU hS hSt hDO hw
      generalize hop : s.ops k = op at a0 a1 a2 a3 a4 a5 a6 HDO
      have q0 : (0 : Int) ≤ (k : Int) := by omega
      have q1 : (k : Int) < (s.n : Int) := by omega
      have q2 : IntKind.i64.wrap ((k : Int) + 1) = (k : Int) + 1 := IntWalk.i64_in _ (by omega)
      go_wp2_with fail
      refine (HDO.out _ ((Below.refl _ wr).alloc (Nat.le_refl _) _)).mono ?_
      rintro e w4 ⟨cd, ah, as4, A4, n4, c4, bytes, T1, X4, L1, held1, vals1, mem1, rfl, hc4, hT1, hS4, hr4, hX4, hAn, hSt1⟩
      simp only [World.size_alloc] at hT1 hX4
      have hcw4 : Chg T wr w4 := ((Chg.refl T wr).alloc _).trans hc4 (fun _ _ h => h)
      have HRR := Lib.hid ((HG.out.1.chg hcw4 (fun j h => (HU.out j h).2.1)))
      have HC4 := Lib.hid hcw4
      have HS4 := Lib.hid hS4
      have HT1 := Lib.hid hT1
      have HR4 := Lib.hid hr4
      have HX4 := Lib.hid hX4
      have HAN := Lib.hid (And.intro hAn hSt1)
      clear hc4 hT1 hS4 hr4 hX4 hAn hSt1 a0 a1 a2 a3 a4 a5 a6 hcw4
      unfold ansV
      go_wp2_with (at_builtin; refine wpList_append_row _ (by rfl) _ _ _ (by rfl) 40 i0 _ 4 48 Tryz.underlying110 hi0 hz0 hz1 hz2 (by rfl) (by omega) _ k _ (by rfl) (HRR.out.alloc _) (some ⟨w4.heap.size, 0, none⟩) 1 1 [.int .i64 cd, .int .i64 ah, .bool as4, .slice A4 n4 c4] (by rfl) (by rfl) (Src.blk (Blk.new w4 _ _)) (by simp [Value.oneCell']) (by simp [maxLen]; omega) (by omega) ?_; intro A5 cap5 w5 hown hgrow _)
      go_roundw
      case rel => exact ⟨k + 1, by omega, by go_num, Lib.hid (RunInv.step HG.out HB.out HT.out HU.out HC4.out HT1.out HS4.out HR4.out HX4.out HAN.out.1 HAN.out.2 hown hgrow)⟩
      case measure => simp [intOf]; omega
    · obtain rfl : k = s.n := by omega
      have hRN : Calls Tryz.prog 34 #[.pointer (some ⟨w.heap.size, 0, none⟩)] wr (SinceEnd wr L.runs) := by
        obtain ⟨own, h1, h2⟩ := hS
        exact runs_any _ L _ wr h2 (by simp) (Nat.le_trans (HP.out.bound _ _ _ _ _ hSt) (by omega))
      have HH := Lib.hid (And.intro hg (And.intro hb (And.intro hU hSt)))
      clear hg hb hT hU hS hSt hw
      go_wp2_with fail
      refine hRN.mono ?_
      rintro e w6 ⟨A6, cap6, rfl, hr6, hb6⟩
      go_wp2_with fail
      obtain ⟨⟨g1, g2⟩, hb, hU, hSt⟩ := HH.out
      go_ret2
      refine ⟨_, az, L, held, vals, mem, A6, cap6, rfl, hSt, ⟨?_, fun j hj => ⟨(g2 j hj).1, ?_⟩⟩, hr6.retag fun j _ h => Nat.le_trans hb.size h, hb.trans (hb6.mono hb.size)⟩
      · exact (g1.chg (Chg.of_below (S := fun _ => False) hb6) (fun _ _ h => h)).retag fun j _ h => (hU j h).1
      · exact ((g2 j hj).2.chg (Chg.of_below (S := fun _ => False) hb6) (fun _ _ h => h)).retag fun j _ h => (hU j h).1
end Go.Proofs.YtpifjikpojikgaaGreatR
