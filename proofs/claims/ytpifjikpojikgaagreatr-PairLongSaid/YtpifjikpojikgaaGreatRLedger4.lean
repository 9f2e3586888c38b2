/- The ledger: Runs; two lists of runs that are the same. -/
import Derived.Test.YtpifjikpojikgaaGreatRLedger3
namespace Go.Proofs.YtpifjikpojikgaaGreatR
open Go.RowKit
attribute [local go_sem ↓] Go.wp_at_zero Go.wp_at_succ

/-- All runs, in new memory. -/
theorem runs_any (p : Option Addr) (L : Led) (S : Nat → Prop) (w : World) (h : LedAt w S p L) (hp : p ≠ none) (hl : L.runs.length ≤ 1099511627776) :
    Calls Tryz.prog 34 #[.pointer p] w (SinceEnd w L.runs) := by
  obtain ⟨a, rfl⟩ := Option.ne_none_iff_exists'.1 hp
  obtain ⟨b, rv, rfl, hS, hb, hr, hz⟩ := h a rfl
  have hlt := hb.lt
  obtain ⟨A, cap, hrv⟩ : ∃ A cap, rv = .slice A L.runs.length cap := by
    rcases hr.open_ with ⟨rfl, h0, _⟩ | ⟨g, cap, cur, rfl, _⟩
    · exact ⟨none, 0, by rw [h0]⟩
    · exact ⟨_, _, rfl⟩
  subst hrv
  have c0 : w.cell? ⟨b, 0, none⟩ = some (.slice A L.runs.length cap) := hb.cell 0
  have hsrc : Hid (∀ o, Src (w.alloc o) A (rnCells L.runs)) := Lib.hid fun o => Src.of_row (hr.alloc o)
  have hln : Hid ((rnCells L.runs).length = L.runs.length * 3) := Lib.hid (length_rnCells _)
  have hnew : Hid (∀ o : Obj, Row (w.alloc (.cells #[] 56)) (fun k => w.heap.size ≤ k) 56 3 (.slice (some ⟨w.heap.size, 0, none⟩) 0 0) 0 []) :=
    Lib.hid fun _ => Row.mk_ (Nat.le_refl _) (Blk.new w _ _) (Nat.le_refl _) (by simp [maxLen]) (by simp) (by simp)
  obtain ⟨i0, hi0, hz0, hz1, hz2⟩ := info_parts rn_info
  clear hb hr hz hp h
  go_enter Tryz.func34, Tryz.ntmps34
  go_wp2_with (at_builtin; refine wpList_append_row _ (by rfl) _ _ _ (by rfl) 56 i0 _ 3 24 Tryz.underlying58 hi0 hz0 hz1 hz2 rfl (by omega) (.slice (some ⟨w.heap.size, 0, none⟩) 0 0) 0 [] (by rfl) (hnew.out (.map #[] 0)) A L.runs.length cap (rnCells L.runs) (by rfl) hln.out (hsrc.out _) (rnCells_one _) (by simp [maxLen]; omega) (by omega) ?_; intro A' cap' w1 hown hgrow _)
  go_ret
  simp only [Nat.zero_add, List.nil_append] at hown
  unfold SinceEnd
  exact ⟨A', cap', by simp, hown.retag fun k _ h => h.elim id (fun h => by simp at h; omega), ((Below.refl _ _).alloc (Nat.le_refl _) _).grown hgrow (by simp) (fun k h => by simp [Value.ownBlock] at h; omega)⟩

set_option maxRecDepth 100000 in
set_option maxHeartbeats 1600000 in
theorem sameRuns_eq (A B : Option Addr) (c d : Nat) (l : List Rn) (w : World) (ha : Src w A (rnCells l)) (hb : Src w B (rnCells l)) (hl : l.length ≤ 1099511627776) :
    Calls Tryz.prog 31 #[.slice A l.length c, .slice B l.length d] w fun e w' => e = .returned (.bool true) ∧ ∃ n, w' = w.drewN n := by
  have HA := Lib.hid ha
  have HB := Lib.hid hb
  clear ha hb
  go_enter Tryz.func31, Tryz.ntmps31
  go_wp2_with fail
  go_loopw [5] (fun i wr => ∃ k : Nat, k ≤ l.length ∧ i = .int .i64 k ∧ Hid (∃ n, wr = w.drewN n)) (fun i _ => l.length - (intOf i).toNat)
  case atStart => exact ⟨0, Nat.zero_le _, rfl, Lib.hid ⟨0, rfl⟩⟩
  case round =>
    obtain ⟨k, hk, rfl, hw⟩ := hrel
    by_cases hlt : k < l.length
    · have hne : rnCells l ≠ [] := by
        intro h
        have := congrArg List.length h
        rw [length_rnCells] at this
        simp at this; omega
      obtain ⟨g, o, rfl, hg⟩ := HA.out.form hne
      obtain ⟨g', o', rfl, hg'⟩ := HB.out.form hne
      obtain ⟨h0, h1, h2⟩ := rnCells_get l k hlt
      have a0 : wr.cell? ⟨g, o + k * 3, none⟩ = some (.int .u8 (l.getD k ⟨0, 0, 0⟩).kind) := by obtain ⟨n, rfl⟩ := hw.out; exact hg _ _ h0
      have a1 : wr.cell? ⟨g, o + k * 3 + 1, none⟩ = some (.int .i64 (l.getD k ⟨0, 0, 0⟩).size) := by obtain ⟨n, rfl⟩ := hw.out; exact hg _ _ h1
      have a2 : wr.cell? ⟨g, o + k * 3 + 2, none⟩ = some (.int .i64 (l.getD k ⟨0, 0, 0⟩).count) := by obtain ⟨n, rfl⟩ := hw.out; exact hg _ _ h2
      have b0 : wr.cell? ⟨g', o' + k * 3, none⟩ = some (.int .u8 (l.getD k ⟨0, 0, 0⟩).kind) := by obtain ⟨n, rfl⟩ := hw.out; exact hg' _ _ h0
      have b1 : wr.cell? ⟨g', o' + k * 3 + 1, none⟩ = some (.int .i64 (l.getD k ⟨0, 0, 0⟩).size) := by obtain ⟨n, rfl⟩ := hw.out; exact hg' _ _ h1
      have b2 : wr.cell? ⟨g', o' + k * 3 + 2, none⟩ = some (.int .i64 (l.getD k ⟨0, 0, 0⟩).count) := by obtain ⟨n, rfl⟩ := hw.out; exact hg' _ _ h2
      generalize l.getD k ⟨0, 0, 0⟩ = r at a0 a1 a2 b0 b1 b2
      clear h0 h1 h2 hg hg' hne
      have q0 : (0 : Int) ≤ (k : Int) := by omega
      have q1 : (k : Int) < (l.length : Int) := by omega
      have q2 : IntKind.i64.wrap ((k : Int) + 1) = (k : Int) + 1 := IntWalk.i64_in _ (by omega)
      go_wp2_with fail
      go_quiet (fail)
      go_wp2_with fail
      go_roundw
      case rel => exact ⟨k + 1, by omega, by go_num, Lib.hid (by obtain ⟨n, rfl⟩ := hw.out; exact ⟨n + nq, World.drewN_drewN _ _ _⟩)⟩
      case measure => simp [intOf]; omega
    · go_wp2_with fail
      go_ret
      exact ⟨rfl, hw.out⟩

set_option maxRecDepth 100000 in
set_option maxHeartbeats 1600000 in
theorem same_eq (A B : Option Addr) (c d : Nat) (l : List Rn) (w : World) (ha : Src w A (rnCells l)) (hb : Src w B (rnCells l)) (hl : l.length ≤ 1099511627776) :
    Calls Tryz.prog 53 #[.slice A l.length c, .slice B l.length d] w fun e w' => e = .returned (.bool true) ∧ ∃ n, w' = w.drewN n := by
  have HA := Lib.hid ha
  have HB := Lib.hid hb
  clear ha hb
  go_enter Tryz.func53, Tryz.ntmps53
  go_wp2_with fail
  go_loopw [13] (fun i wr => ∃ k : Nat, k ≤ l.length ∧ i = .int .i64 k ∧ Hid (∃ n, wr = w.drewN n)) (fun i _ => l.length - (intOf i).toNat)
  case atStart => exact ⟨0, Nat.zero_le _, rfl, Lib.hid ⟨0, rfl⟩⟩
  case round =>
    obtain ⟨k, hk, rfl, hw⟩ := hrel
    by_cases hlt : k < l.length
    · have hne : rnCells l ≠ [] := by
        intro h
        have := congrArg List.length h
        rw [length_rnCells] at this
        simp at this; omega
      obtain ⟨g, o, rfl, hg⟩ := HA.out.form hne
      obtain ⟨g', o', rfl, hg'⟩ := HB.out.form hne
      obtain ⟨h0, h1, h2⟩ := rnCells_get l k hlt
      have a0 : wr.cell? ⟨g, o + k * 3, none⟩ = some (.int .u8 (l.getD k ⟨0, 0, 0⟩).kind) := by obtain ⟨n, rfl⟩ := hw.out; exact hg _ _ h0
      have a1 : wr.cell? ⟨g, o + k * 3 + 1, none⟩ = some (.int .i64 (l.getD k ⟨0, 0, 0⟩).size) := by obtain ⟨n, rfl⟩ := hw.out; exact hg _ _ h1
      have a2 : wr.cell? ⟨g, o + k * 3 + 2, none⟩ = some (.int .i64 (l.getD k ⟨0, 0, 0⟩).count) := by obtain ⟨n, rfl⟩ := hw.out; exact hg _ _ h2
      have b0 : wr.cell? ⟨g', o' + k * 3, none⟩ = some (.int .u8 (l.getD k ⟨0, 0, 0⟩).kind) := by obtain ⟨n, rfl⟩ := hw.out; exact hg' _ _ h0
      have b1 : wr.cell? ⟨g', o' + k * 3 + 1, none⟩ = some (.int .i64 (l.getD k ⟨0, 0, 0⟩).size) := by obtain ⟨n, rfl⟩ := hw.out; exact hg' _ _ h1
      have b2 : wr.cell? ⟨g', o' + k * 3 + 2, none⟩ = some (.int .i64 (l.getD k ⟨0, 0, 0⟩).count) := by obtain ⟨n, rfl⟩ := hw.out; exact hg' _ _ h2
      generalize l.getD k ⟨0, 0, 0⟩ = r at a0 a1 a2 b0 b1 b2
      clear h0 h1 h2 hg hg' hne
      have q0 : (0 : Int) ≤ (k : Int) := by omega
      have q1 : (k : Int) < (l.length : Int) := by omega
      have q2 : IntKind.i64.wrap ((k : Int) + 1) = (k : Int) + 1 := IntWalk.i64_in _ (by omega)
      go_wp2_with fail
      go_quiet (fail)
      go_wp2_with fail
      go_roundw
      case rel => exact ⟨k + 1, by omega, by go_num, Lib.hid (by obtain ⟨n, rfl⟩ := hw.out; exact ⟨n + nq, World.drewN_drewN _ _ _⟩)⟩
      case measure => simp [intOf]; omega
    · go_wp2_with fail
      go_ret
      exact ⟨rfl, hw.out⟩

end Go.Proofs.YtpifjikpojikgaaGreatR
