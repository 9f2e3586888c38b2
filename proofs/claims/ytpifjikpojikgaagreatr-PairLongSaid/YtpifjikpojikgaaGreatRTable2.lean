/- The table: Add. -/
import Derived.Test.YtpifjikpojikgaaGreatRTable
namespace Go.Proofs.YtpifjikpojikgaaGreatR
open Go.RowKit

set_option maxRecDepth 100000 in
set_option maxHeartbeats 800000 in
/-- Add: the least number that is free. -/
theorem add_free (bt k : Nat) (v : Value) (T : TypeId) (x : Value) (hvx : v = .iface T x) (held : List Bool) (vals : List Value) (S : Nat → Prop) (w : World) (ht : TableAt w S bt held vals) (hk : k < 64)
    (hlo : ∀ j, j < k → held.getD j false = true) (hfr : held.getD k false = false) :
    Calls Tryz.prog 105 #[.pointer (some ⟨bt, 0, none⟩), v] w fun e w' =>
      e = .returned (.tuple #[.int .i64 k, .int .i64 0]) ∧ Chg S w w' ∧ TableAt w' S bt (held.set k true) (vals.set k v) := by
  obtain ⟨bh, bx, h1, h2, h3, h4, h5, h6, h7, h8⟩ := ht
  subst hvx
  have c0 : w.cell? ⟨bt, 0, none⟩ = some (.slice (some ⟨bh, 0, none⟩) 64 64) := h4.cell 0
  have c1 : w.cell? ⟨bt, 1, none⟩ = some (.slice (some ⟨bx, 0, none⟩) 64 64) := h4.cell 1
  have H4 := Lib.hid h4
  have H5 := Lib.hid h5
  have H6 := Lib.hid h6
  clear h4 h5 h6
  go_enter Tryz.func105, Tryz.ntmps105
  go_wp2_with fail
  refine (made_any bt _ _ _ (by assumption)).mono ?_
  rintro e w' ⟨rfl, rfl⟩
  go_wp2_with fail
  have hcell : ∀ j, j < 64 → w.cell? ⟨bh, j, none⟩ = some (.bool (held.getD j false)) := fun j hj => by
    rw [H5.out.cell j]
    simp [List.getD, h7, hj]
  have HC := Lib.hid hcell
  have HLO := Lib.hid hlo
  have HFR := Lib.hid hfr
  clear hcell hlo hfr
  go_loop [16] (fun i => ∃ j : Nat, j ≤ k ∧ i = .int .i64 j) (fun i => 64 - (intOf i).toNat)
  case atStart => exact ⟨0, Nat.zero_le _, rfl⟩
  case round =>
    obtain ⟨j, hj, rfl⟩ := hrel
    have q0 : (0 : Int) ≤ (j : Int) := by omega
    have q1 : (j : Int) < 64 := by omega
    have q2 : IntKind.i64.wrap ((j : Int) + 1) = (j : Int) + 1 := IntWalk.i64_in _ (by omega)
    by_cases hlt : j < k
    · have hc : w.cell? ⟨bh, j, none⟩ = some (.bool true) := by rw [HC.out j (by omega), HLO.out j hlt]
      go_wp2_with fail
      go_round
      case rel => exact ⟨j + 1, by omega, by go_num⟩
      case measure => simp [intOf]; omega
    · obtain rfl : j = k := by omega
      have hc : w.cell? ⟨bh, j, none⟩ = some (.bool false) := by rw [HC.out j (by omega), HFR.out]
      have f0 := H5.out.frozen j
      have f1 := H6.out.frozen j
      have hx : w.cell? ⟨bx, j, none⟩ = some (vals[j]'(by omega)) := by rw [H6.out.cell j]; simp
      generalize vals[j]'(by omega) = u at hx
      have hne : bx ≠ bh := fun e => absurd (H5.out.eq_ (e ▸ H6.out)).1 (by decide)
      go_wp2_with fail
      have hnt : bt ≠ bh := fun e => absurd (H4.out.eq_ (e ▸ H5.out)).1 (by decide)
      have hnu : bt ≠ bx := fun e => absurd (H4.out.eq_ (e ▸ H6.out)).1 (by decide)
      have E5 : ∀ W, Blk W bh 4 (held.map Value.bool).toArray → Blk (W.setCell ⟨bh, j, none⟩ (.bool true)) bh 4 ((held.set j true).map Value.bool).toArray := fun W h => by
        have := h.set_ j (.bool true)
        simpa [List.setIfInBounds_toArray, List.map_set] using this
      have E6 : ∀ W, Blk W bx 81 vals.toArray → Blk (W.setCell ⟨bx, j, none⟩ (.iface T x)) bx 81 (vals.set j (.iface T x)).toArray := fun W h => by
        have := h.set_ j (.iface T x)
        simpa [List.setIfInBounds_toArray] using this
      have hR := Lib.hid (And.intro E5 E6)
      clear E5 E6
      go_region
      all_goals go_wp2_with fail
      all_goals go_ret2
      · refine ⟨rfl, ((((Chg.refl S w).setCell (p := ⟨bh, j, none⟩) (.inl h2) _).setCell (p := ⟨bx, j, none⟩) (.inl h3) _).drew), bh, bx, h1, h2, h3, ?_, ?_, ?_, by simp [h7], by simp [h8]⟩
        · exact ((H4.out.far (p := ⟨bh, j, none⟩) hnt _).far (p := ⟨bx, j, none⟩) hnu _).drew
        · exact ((hR.out.1 _ H5.out).far (p := ⟨bx, j, none⟩) (Ne.symm hne) _).drew
        · exact (hR.out.2 _ (H6.out.far (p := ⟨bh, j, none⟩) hne _)).drew
end Go.Proofs.YtpifjikpojikgaaGreatR
