/- PairLong: the long scripts. -/
import Derived.Test.YtpifjikpojikgaaGreatRPair6
namespace Go.Proofs.YtpifjikpojikgaaGreatR
open Go.RowKit
attribute [local go_sem ↓] Go.wp_at_zero Go.wp_at_succ

/-- A script of reveals on an empty vault: handles h, from the k0-th on. -/
def revOp (h : Int) : OpV := ⟨9, h, 0, 0, 0, none, 0, 0, none, 0, 0⟩
def longLed (i : Nat) : Led := ⟨(List.replicate i [(⟨11, 9, 1⟩ : Rn), ⟨12, 5, 1⟩]).flatten, 2 * i⟩
theorem longLed_len (i : Nat) : (longLed i).runs.length = 2 * i := by simp [longLed]; omega
theorem longLed_succ (i : Nat) (hi : i ≤ 1099511627) : ((longLed i).note 11 9 1).note 12 5 1 = longLed (i + 1) := by
  have key : ∀ R : List Rn, (R = [] ∨ ∃ R', R = R' ++ [(⟨12, 5, 1⟩ : Rn)]) → noteRuns (noteRuns R 11 9 1) 12 5 1 = R ++ [⟨11, 9, 1⟩, ⟨12, 5, 1⟩] := by
    rintro R (rfl | ⟨R', rfl⟩)
    · simp [noteRuns]
    · rw [noteRuns_snoc]
      simp only [show ¬ ((12 : Int) = 11 ∧ (5 : Int) = 9) by omega, if_false]
      rw [show R' ++ [(⟨12, 5, 1⟩ : Rn), ⟨11, 9, 1⟩] = (R' ++ [(⟨12, 5, 1⟩ : Rn)]) ++ [⟨11, 9, 1⟩] by simp, noteRuns_snoc]
      simp
  have hR : (longLed i).runs = [] ∨ ∃ R', (longLed i).runs = R' ++ [(⟨12, 5, 1⟩ : Rn)] := by
    cases i with
    | zero => exact .inl rfl
    | succ i => exact .inr ⟨(List.replicate i [(⟨11, 9, 1⟩ : Rn), ⟨12, 5, 1⟩]).flatten ++ [⟨11, 9, 1⟩], by simp [longLed, List.replicate_succ']⟩
  have h1 := key _ hR
  unfold Led.note
  simp only [h1]
  have h2 : (longLed i).n = 2 * i := rfl
  rw [h2, IntWalk.wrap64_in (2 * i + 1) (by omega), IntWalk.wrap64_in (2 * i + 1 + 1) (by omega)]
  simp [longLed, List.replicate_succ']
  omega
def longScript (n : Nat) (h : Nat → Int) : Script where
  n := n
  ops := fun i => revOp (h i)
  St := fun i L held vals mem => i ≤ 4096 ∧ L = longLed i ∧ held = List.replicate 64 false ∧ vals = List.replicate 64 .nilIface ∧ mem = fun _ => zeros
  code := fun _ => 5
  seg := fun _ => [⟨11, 9, 1⟩, ⟨12, 5, 1⟩]
theorem empty_not (h : Int) : isHeld (List.replicate 64 false) h = false := by
  unfold isHeld
  rw [Bool.and_eq_false_iff]
  right
  rw [List.getD_eq_getElem?_getD, List.getElem?_replicate]
  split <;> rfl
theorem long_plays (n : Nat) (hn : n ≤ 4096) (h : Nat → Int) (V : Blocks) (w : World) : (longScript n h).Plays V w where
  start := ⟨by omega, rfl, rfl, rfl, rfl⟩
  bound := fun i L held vals mem ⟨h0, h1, _⟩ => by rw [h1, longLed_len]; simp [longLed]; omega
  seg1 := fun i hi => ⟨by simp [longScript], by simp [longScript]⟩
  step := fun i hi L held vals mem W T bv lp ⟨h0, h1, h2, h3, h4⟩ hW hT hS => by
    have hi' : i < n := hi
    refine (do_reveal_not bv lp (h i) 0 0 0 none 0 0 none 0 0 L T W held vals mem hS (by rw [h1, longLed_len]; omega) (by rw [h2]; exact empty_not _)).mono ?_
    intro e w' hd
    refine hd.mono ?_
    rintro code hh s bytes L' held' vals' mem' ⟨rfl, rfl, rfl, rfl, rfl, rfl, rfl, rfl⟩
    refine ⟨rfl, ⟨by omega, by rw [h1, longLed_succ i (by omega)], h2, h3, h4⟩, ?_, ?_⟩
    · rw [h1, longLed_succ i (by omega)]; simp [longLed, longScript, List.replicate_succ']
    · rw [h1, longLed_succ i (by omega)]; simp [longLed, longScript, tot]; omega

theorem op_info : (Tryz.prog.info? 37).map (fun i => (i.zero, i.size, i.bytes)) = some (some (.agg #[.int .u8 0, .int .i64 0, .int .u8 0, .int .i64 0, .int .i64 0, .slice none 0 0, .slice none 0 0]), 7, 88) := by kernel_rfl
/-- The long script in memory, k of its operations being set. -/
def LongAt (w : World) (k : Nat) (wr : World) : Prop :=
  ∃ cs : Array Value, Blk wr w.heap.size 37 cs ∧ cs.size = 28679 ∧ (∀ i, i < k → ∀ j, j < 7 → cs[i * 7 + j]? = (revOp ((i % 64 : Nat) : Int)).cells[j]?) ∧ Below w.heap.size w wr

theorem set7 (cs : Array Value) (b : Nat) (v0 v1 v2 v3 v4 v5 v6 : Value) (hb : b + 7 ≤ cs.size) (n : Nat) :
    (((((((cs.setIfInBounds b v0).setIfInBounds (b + 1) v1).setIfInBounds (b + 2) v2).setIfInBounds (b + 3) v3).setIfInBounds (b + 4) v4).setIfInBounds (b + 5) v5).setIfInBounds (b + 6) v6)[n]? =
      if b ≤ n ∧ n < b + 7 then [v0, v1, v2, v3, v4, v5, v6][n - b]? else cs[n]? := by
  by_cases h : b ≤ n ∧ n < b + 7
  · rw [if_pos h]
    obtain ⟨j, rfl⟩ : ∃ j, n = b + j := ⟨n - b, by omega⟩
    have hj : j < 7 := by omega
    rw [Nat.add_sub_cancel_left]
    match j, hj with
    | 0, _ => simp [Array.getElem?_setIfInBounds]; omega
    | 1, _ => simp [Array.getElem?_setIfInBounds]; omega
    | 2, _ => simp [Array.getElem?_setIfInBounds]; omega
    | 3, _ => simp [Array.getElem?_setIfInBounds]; omega
    | 4, _ => simp [Array.getElem?_setIfInBounds]; omega
    | 5, _ => simp [Array.getElem?_setIfInBounds]; omega
    | 6, _ => simp [Array.getElem?_setIfInBounds]; omega
  · rw [if_neg h]
    simp only [Array.getElem?_setIfInBounds]
    rw [if_neg (by omega), if_neg (by omega), if_neg (by omega), if_neg (by omega), if_neg (by omega), if_neg (by omega), if_neg (by omega)]
theorem LongAt.step {w wr : World} {k : Nat} (h : LongAt w k wr) (hk : k < 4097) :
    LongAt w (k + 1) (((((((wr.setCell ⟨w.heap.size, k * 7, none⟩ (.int .u8 9)).setCell ⟨w.heap.size, k * 7 + 1, none⟩ (.int .i64 (↑k % 64))).setCell ⟨w.heap.size, k * 7 + 2, none⟩ (.int .u8 0)).setCell ⟨w.heap.size, k * 7 + 3, none⟩ (.int .i64 0)).setCell ⟨w.heap.size, k * 7 + 4, none⟩ (.int .i64 0)).setCell
      ⟨w.heap.size, k * 7 + 5, none⟩ (.slice none 0 0)).setCell ⟨w.heap.size, k * 7 + 6, none⟩ (.slice none 0 0)) := by
  obtain ⟨cs, hb, hs, hc, hB⟩ := h
  refine ⟨_, (((((((hb.set_ (k * 7) _).set_ (k * 7 + 1) _).set_ (k * 7 + 2) _).set_ (k * 7 + 3) _).set_ (k * 7 + 4) _).set_ (k * 7 + 5) _).set_ (k * 7 + 6) _), by simpa using hs, fun i hi j hj => ?_, ?_⟩
  · rw [set7 _ _ _ _ _ _ _ _ _ (by omega)]
    by_cases e : i = k
    · subst e
      rw [if_pos (by omega), Nat.add_sub_cancel_left, show ((i : Int) % 64) = ((i % 64 : Nat) : Int) by omega]
      rfl
    · rw [if_neg (by omega)]
      exact hc i (by omega) j hj
  · have hp : ∀ j, w.heap.size ≤ (⟨w.heap.size, k * 7 + j, none⟩ : Addr).block := fun j => Nat.le_refl _
    exact (((((((hB.setCell (p := ⟨w.heap.size, k * 7, none⟩) (Nat.le_refl _) _).setCell (hp 1) _).setCell (hp 2) _).setCell (hp 3) _).setCell (hp 4) _).setCell (hp 5) _).setCell (hp 6) _)
theorem long_src {w wr : World} (h : LongAt w 4097 wr) (k0 n : Nat) (hn : k0 + n ≤ 4097) : Src wr (some ⟨w.heap.size, k0 * 7, none⟩) (opsCells (fun i => revOp (((i + k0) % 64 : Nat) : Int)) n) := by
  obtain ⟨cs, hb, hs, hc, hB⟩ := h
  refine ⟨(fun h => nomatch h), fun ad h j u hu => ?_⟩
  cases h
  have hj : j < n * 7 := by have := (List.getElem?_eq_some_iff.1 hu).1; rwa [opsCells_len] at this
  have e : j = j / 7 * 7 + j % 7 := by omega
  rw [e, opsCells_get _ _ _ _ (by omega) (by omega)] at hu
  rw [add_lit, hb.cell, show k0 * 7 + j = (j / 7 + k0) * 7 + j % 7 by omega, hc _ (by omega) _ (by omega)]
  exact hu

theorem LongAt.below {w wr W : World} {k : Nat} (h : LongAt w k wr) (hb : Below wr.heap.size wr W) : LongAt w k W := by
  obtain ⟨cs, h1, h2, h3, h4⟩ := h
  exact ⟨cs, h1.chg (Chg.of_below (S := fun _ => False) hb) (fun h => h), h2, h3, h4.trans (hb.mono h4.size)⟩
theorem split_same (w W : World) (h : LongAt w 4097 W) (k0 k1 c d : Nat) (h0 : k0 ≤ 1) (h1 : k1 ≤ 1) :
    Calls Tryz.prog 27 #[.slice (some ⟨w.heap.size, k0 * 7, none⟩) 4096 c, .slice (some ⟨w.heap.size, k1 * 7, none⟩) 4096 d] W fun e w' => e = .returned (.tuple #[.int .i64 (-1), .int .i64 0]) ∧ Below W.heap.size W w' := by
  have hlt : w.heap.size < W.heap.size := by obtain ⟨_, h, _⟩ := h; exact h.lt
  refine (split_any (longScript 4096 fun i => (((i + k0) % 64 : Nat) : Int)) (longScript 4096 fun i => (((i + k1) % 64 : Nat) : Int)) (some ⟨w.heap.size, k0 * 7, none⟩) (some ⟨w.heap.size, k1 * 7, none⟩) c d W
    (long_plays 4096 (by omega) _ _ _) (long_plays 4096 (by omega) _ _ _) (Nat.le_refl _) (Nat.le_refl _) (long_src h k0 4096 (by omega)) (fun a ha => by cases ha; exact hlt) (long_src h k1 4096 (by omega)) (fun a ha => by cases ha; exact hlt)
    (fun _ _ _ _ => rfl) (fun _ _ => by simp [longScript])).mono ?_
  rintro e w' ⟨dd, r, rfl, ⟨g1, g2, (⟨a1, a2, a3⟩ | ⟨a1, a2, a3⟩ | ⟨a1, a2, a3⟩)⟩, hb⟩
  · exfalso
    have a1' : dd < 4096 := a1
    rcases a2 with a2 | a2
    · have : dd = 4096 := a2
      omega
    · exact a2.2 rfl
  · exfalso
    have e1 : dd = 4096 := a1
    have e2 : dd < 4096 := a2
    omega
  · exact ⟨by rw [a3], hb⟩

set_option maxRecDepth 100000 in
set_option maxHeartbeats 1600000 in
theorem pairLong_any (w : World) : Calls Tryz.prog 5 #[] w fun e w' => e = .returned (.bool true) ∧ Below w.heap.size w w' := by
  obtain ⟨i0, hi0, hz0, hz1, hz2⟩ := info_parts op_info
  have hmk := run_make_rowN (P := Tryz.prog) 22 37 i0 _ Tryz.underlying22 hi0 hz0 .i64 .i64 4097 4097 (by omega) (by rw [hz2]; omega) (by omega) w
  rw [hz1] at hmk
  generalize hcs : madeCells _ _ = cs at hmk
  have hsz : cs.size = 28679 := by rw [← hcs]; simp [madeCells]
  have hmk' : (Instr.makeSlice 22 (.int .i64 4097) (.int .i64 4097)).run Tryz.prog w = .ok (.slice (some ⟨w.heap.size, 0, none⟩) 4097 4097) (w.alloc (.cells cs 37)) := hmk
  clear hcs hi0 hz0 hz1 hz2 hmk
  go_enter Tryz.func5, Tryz.ntmps5
  go_wp2_with fail
  have hst : Hid (LongAt w 0 (w.alloc (.cells cs 37))) := Lib.hid ⟨cs, Blk.new w _ _, hsz, fun i hi => by omega, (Below.refl _ w).alloc (Nat.le_refl _) _⟩
  clear hmk'
  go_loopw [2] (fun i wr => ∃ k : Nat, k ≤ 4097 ∧ i = .int .i64 k ∧ Hid (LongAt w k wr)) (fun i _ => 4097 - (intOf i).toNat)
  case atStart => exact ⟨0, Nat.zero_le _, rfl, hst⟩
  case round =>
    clear hst
    obtain ⟨k, hk, rfl, hw⟩ := hrel
    by_cases hlt : k < 4097
    · have q0 : (0 : Int) ≤ (k : Int) := by omega
      have q1 : (k : Int) < 4097 := by omega
      have q2 : IntKind.i64.wrap ((k : Int) + 1) = (k : Int) + 1 := IntWalk.i64_in _ (by omega)
      obtain ⟨cs2, hb, hs, hc, hB⟩ := hw.out
      have hcell : ∀ j, j < 7 → ∃ v, wr.cell? ⟨w.heap.size, k * 7 + j, none⟩ = some v := fun j hj => ⟨cs2[k * 7 + j]'(by omega), by rw [hb.cell]; exact Array.getElem?_eq_getElem _⟩
      obtain ⟨v0, c0⟩ := hcell 0 (by omega)
      obtain ⟨v1, c1⟩ := hcell 1 (by omega)
      obtain ⟨v2, c2⟩ := hcell 2 (by omega)
      obtain ⟨v3, c3⟩ := hcell 3 (by omega)
      obtain ⟨v4, c4⟩ := hcell 4 (by omega)
      obtain ⟨v5, c5⟩ := hcell 5 (by omega)
      obtain ⟨v6, c6⟩ := hcell 6 (by omega)
      simp only [Nat.add_zero] at c0
      have f0 := hb.frozen (k * 7)
      have f1 := hb.frozen (k * 7 + 1)
      have f2 := hb.frozen (k * 7 + 2)
      have f3 := hb.frozen (k * 7 + 3)
      have f4 := hb.frozen (k * 7 + 4)
      have f5 := hb.frozen (k * 7 + 5)
      have f6 := hb.frozen (k * 7 + 6)
      have HL := Lib.hid (And.intro hb (And.intro hs (And.intro hc hB)))
      clear hb hs hc hB hcell
      go_wp2_with fail
      exact ⟨⟨k + 1, by omega, by go_num, Lib.hid (hw.out.step hlt)⟩, by simp [intOf]; omega⟩
    · obtain rfl : k = 4097 := by omega
      have HL := Lib.hid hw.out
      have hB : Below w.heap.size w wr := by obtain ⟨_, _, _, _, h⟩ := hw.out; exact h
      have HB := Lib.hid hB
      have hg : w.heap.size < wr.heap.size := by obtain ⟨_, h, _⟩ := hw.out; exact h.lt
      clear hB hw
      have HLV := Lib.hid lives_any
      have hA : ∀ W, Calls Tryz.prog 27 #[.slice (some ⟨w.heap.size, 0, none⟩) 4097 4097, .slice none 0 0] W fun e w' => e = .returned (.tuple #[.int .i64 0, .int .i64 9]) ∧ Below W.heap.size W w' := fun W => split_long _ _ 4097 4097 0 0 W (.inl (by omega)) (by omega) (by omega)
      have hB : ∀ W, Calls Tryz.prog 27 #[.slice none 0 0, .slice (some ⟨w.heap.size, 0, none⟩) 4097 4097] W fun e w' => e = .returned (.tuple #[.int .i64 0, .int .i64 9]) ∧ Below W.heap.size W w' := fun W => split_long _ _ 0 0 4097 4097 W (.inr (by omega)) (by omega) (by omega)
      have HA := Lib.hid hA
      have HB2 := Lib.hid hB
      clear hA hB
      go_wp2_with fail
      refine (HA.out wr).mono ?_
      rintro e wa ⟨rfl, hba⟩
      have HBA := Lib.hid hba
      clear hba
      go_wp2_with fail
      refine (HB2.out wa).mono ?_
      rintro e wb ⟨rfl, hbb⟩
      have HBB := Lib.hid (HBA.out.trans (hbb.mono HBA.out.size))
      clear hbb
      go_wp2_with fail
      have h8 : ∀ W, Below wr.heap.size wr W → Calls Tryz.prog 27 #[.slice (some ⟨w.heap.size, 0, none⟩) 4096 4097, .slice (some ⟨w.heap.size, 7, none⟩) 4096 4096] W fun e w' => e = .returned (.tuple #[.int .i64 (-1), .int .i64 0]) ∧ Below W.heap.size W w' :=
        fun W hW => split_same w W (HL.out.below hW) 0 1 4097 4096 (by omega) (by omega)
      have h9 : ∀ W, Below wr.heap.size wr W → Calls Tryz.prog 27 #[.slice (some ⟨w.heap.size, 0, none⟩) 4096 4097, .slice (some ⟨w.heap.size, 0, none⟩) 4096 4097] W fun e w' => e = .returned (.tuple #[.int .i64 (-1), .int .i64 0]) ∧ Below W.heap.size W w' :=
        fun W hW => split_same w W (HL.out.below hW) 0 0 4097 4097 (by omega) (by omega)
      have H8 := Lib.hid h8
      have H9 := Lib.hid h9
      clear h8 h9 HA HB2
      go_region_with (go_at_call 27; refine (H8.out _ (HBB.out.trans ((Below.refl _ wb).drew.mono HBB.out.size))).mono ?_; rintro e wc ⟨rfl, hbc⟩)
      have HBC := Lib.hid ((HBB.out.trans ((Below.refl _ wb).drew.mono HBB.out.size)).trans (hbc.mono HBB.out.size))
      clear hbc
      go_wp2_with fail
      go_region_with (go_at_call 27; refine (H9.out _ (HBC.out.trans ((Below.refl _ wc).drew.mono HBC.out.size))).mono ?_; rintro e wd ⟨rfl, hbd⟩)
      have HBD := Lib.hid ((HBC.out.trans ((Below.refl _ wc).drew.mono HBC.out.size)).trans (hbd.mono HBC.out.size))
      clear hbd
      go_wp2_with fail
      refine (HLV.out wd).mono ?_
      rintro e we ⟨rfl, hbe⟩
      have HBE := Lib.hid (HBD.out.trans (hbe.mono HBD.out.size))
      clear hbe
      go_wp2_with fail
      go_ret
      exact ⟨rfl, HB.out.trans (HBE.out.mono HB.out.size)⟩
end Go.Proofs.YtpifjikpojikgaaGreatR
