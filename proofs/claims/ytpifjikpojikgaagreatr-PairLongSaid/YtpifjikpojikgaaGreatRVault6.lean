/- The vault: put and reveal. -/
import Derived.Test.YtpifjikpojikgaaGreatRVault5
namespace Go.Proofs.YtpifjikpojikgaaGreatR
open Go.RowKit
attribute [local go_sem ↓] Go.wp_at_zero Go.wp_at_succ

set_option maxRecDepth 100000 in
theorem put_key (bv k : Nat) (lp : Option Addr) (kd h0 al ct out : Int) (A : Option Addr) (n c : Nat) (B : Option Addr) (m d : Nat) (xs : List Value) (L : Led) (T : Nat → Prop) (w : World) (held : List Bool) (vals : List Value) (mem : Nat → List Value)
    (hs : Sys w T bv lp L held vals mem) (hA : Src w A xs) (hn : xs.length = n) (hn2 : n ≤ 512) (hx : ∀ u ∈ xs, u.oneCell' = true)
    (hk : k < 64) (hlo : ∀ j, j < k → held.getD j false = true) (hfr : held.getD k false = false) :
    Calls Tryz.prog 63 #[ptr bv, .agg (opCells kd h0 al ct out A n c B m d).toArray] w
      (DoPost w T bv lp fun code h s bytes L' held' vals' mem' => code = 0 ∧ h = k ∧ s = false ∧ bytes = [] ∧ L' = L ∧ held' = held.set k true ∧ (∃ A' c', vals' = vals.set k (keyV (.slice A' n c'))) ∧
        mem' = fun h => if h = k then xs ++ List.replicate (1024 - n) (.int .u8 0) else mem h) := by
  obtain ⟨own, hv, hL⟩ := hs.shut
  have HV := Lib.hid hv
  have HL := Lib.hid hL
  have HLO := Lib.hid hlo
  have HFR := Lib.hid hfr
  have HA := Lib.hid hA
  have HN := Lib.hid hn
  have HX := Lib.hid hx
  clear hv hL hs hlo hfr hA hn hx
  unfold ptr opCells
  have i1 : (n : Int) ≤ 512 := by omega
  have i3 : ¬ (512 : Int) < n := by omega
  go_enter Tryz.func63, Tryz.ntmps63
  go_wp2_with fail
  generalize hW : World.alloc (World.alloc w _) _ = W
  have B1 : Hid (Blk W w.heap.size 37 (opCells kd h0 al ct out A n c B m d).toArray) := by rw [← hW]; exact (Blk.new w _ _).alloc _
  have B2 : Hid (Blk W (w.heap.size + 1) 40 #[.int .i64 0, .int .i64 0, .bool false, .slice none 0 0]) := by rw [← hW]; exact Blk.newAt _ _ _ _ (by simp)
  have HC : Hid (Chg (fun _ => False) w W) := by rw [← hW]; exact ((Chg.refl _ w).alloc _).alloc _
  have HWs : W.heap.size = w.heap.size + 2 := by rw [← hW]; simp
  clear hW
  refine (copied_any A n c xs W (HA.out.chg HC.out (fun _ _ h => h)) HN.out HX.out (by omega)).mono ?_
  rintro e w2 ⟨A', c', rfl, hb2, hr2⟩
  have HB2 := Lib.hid hb2
  have HR2 := Lib.hid hr2
  clear hb2 hr2
  go_wp2_with fail
  refine (take_key bv k W.heap.size A' n c' xs _ _ w2 lp held vals mem ((HV.out.chg HC.out (fun _ _ h => h)).chg (Chg.of_below (S := fun _ => False) HB2.out) (fun _ _ h => h)) hk HLO.out HFR.out (fun j h => by have := h.1.2; omega) (fun j h => h) HB2.out.size HR2.out (by omega) HX.out).mono ?_
  rintro e w3 ⟨rfl, hc3, hv3⟩
  have hw2 := HB2.out.size
  have hw3 := hc3.size
  have B3 := ((B2.out.chg (Chg.of_below (S := fun _ => False) HB2.out) (fun h => h)).chg hc3 (fun h => by have := h.1.2; omega))
  obtain ⟨a0, a1, a2, a3⟩ := ans_cells B3
  obtain ⟨b0, b1, b2, b3⟩ := ans_frozen B3
  have HB3 := Lib.hid B3
  have HC3 := Lib.hid hc3
  have HV3 := Lib.hid hv3
  clear B3 hc3 hv3
  unfold ansV
  go_wp2_with fail
  generalize hZ : World.setCell (World.setCell (World.setCell (World.setCell w3 _ _) _ _) _ _) _ _ = W7
  have hZC : Chg (fun b => b = w.heap.size + 1) w3 W7 := by rw [← hZ]; exact ((((Chg.setCell (S := fun b => b = w.heap.size + 1) (Chg.refl _ w3) (p := ⟨w.heap.size + 1, 0, none⟩) (.inl rfl) _).setCell (p := ⟨w.heap.size + 1, 1, none⟩) (.inl rfl) _).setCell (p := ⟨w.heap.size + 1, 2, none⟩) (.inl rfl) _).setCell (p := ⟨w.heap.size + 1, 3, none⟩) (.inl rfl) _)
  have hA7 : Blk W7 (w.heap.size + 1) 40 #[.int .i64 0, .int .i64 ↑k, .bool false, .slice none 0 0] := by rw [← hZ]; exact ans_set HB3.out
  clear hZ a0 a1 a2 a3 b0 b1 b2 b3
  have hcA : Chg (fun j => (T j ∧ j < w.heap.size) ∧ own j = true) w W7 := ((((HC.out.mono (T := fun j => (T j ∧ j < w.heap.size) ∧ own j = true) (fun _ _ h => h.elim)).trans (Chg.of_below (S := fun j => (T j ∧ j < w.heap.size) ∧ own j = true) HB2.out) (fun _ _ h => h))).trans HC3.out (fun _ _ h => h)).trans hZC (fun j hj e => by omega)
  have hv7 := HV3.out.chg hZC (fun j hj e => by rcases hj with h | h; have := h.1.2; omega; have := h.1; omega)
  refine bodyPost_ret (v := ansV 0 k false none 0 0) (results_cell_row rfl _ _ _ _ _ _ _ (by rfl) hA7 Tryz.underlying40 rfl (by kernel_rfl)) rfl ?_
  refine ⟨0, k, false, none, 0, 0, [], _, fun _ => False, L, _, _, _, rfl, hcA.mono (fun _ _ h => h.1.1), ?_, Sys.vault (T := fun j => T j ∧ j < w.heap.size) (own := own) HL.out hcA (hv7.retag (fun j _ h => ?_)), Row.nil _ _ _ _, fun _ h => h.elim, rfl, rfl, rfl, rfl, rfl, rfl, ⟨A', c', rfl⟩, rfl⟩
  · exact fun j h => h.elim (fun h => .inl h.1) .inr
  · exact h.elim .inl (fun h => .inr (by have := h.1; omega))

set_option maxRecDepth 100000 in
theorem reveal_not (bv : Nat) (lp : Option Addr) (kd h0 al ct out : Int) (A : Option Addr) (n c : Nat) (B : Option Addr) (m d : Nat) (L : Led) (T : Nat → Prop) (w : World) (held : List Bool) (vals : List Value) (mem : Nat → List Value)
    (hs : Sys w T bv lp L held vals mem) (hf : isHeld held h0 = false) :
    Calls Tryz.prog 71 #[ptr bv, .agg (opCells kd h0 al ct out A n c B m d).toArray] w
      (DoPost w T bv lp fun code h s bytes L' held' vals' mem' => code = 5 ∧ h = 0 ∧ s = false ∧ bytes = [] ∧ L' = L ∧ held' = held ∧ vals' = vals ∧ mem' = mem) := by
  have HS := Lib.hid hs
  obtain ⟨own, hv, hL⟩ := hs.shut
  obtain ⟨own1, bt, ms, h1, h2, h3, h4, h5, h6, h8⟩ := hv
  have c0 : w.cell? ⟨bv, 0, none⟩ = some (.pointer (some ⟨bt, 0, none⟩)) := h4.cell 0
  have H4 := Lib.hid h4
  have H5 := Lib.hid h5
  have HF := Lib.hid hf
  clear hL hs hf h4 h5 h6 h8
  unfold ptr opCells
  go_enter Tryz.func71, Tryz.ntmps71
  go_wp2_with fail
  generalize hW : World.alloc (World.alloc w _) _ = W
  have B2 : Hid (Blk W (w.heap.size + 1) 40 #[.int .i64 0, .int .i64 0, .bool false, .slice none 0 0]) := by rw [← hW]; exact Blk.newAt _ _ _ _ (by simp)
  have HC : Hid (Chg (fun _ => False) w W) := by rw [← hW]; exact ((Chg.refl _ w).alloc _).alloc _
  have HWs : W.heap.size = w.heap.size + 2 := by rw [← hW]; simp
  clear hW
  refine (keyAt_not bv bt h0 held vals _ W ((H4.out.chg HC.out (fun h => h)).cell 0) (H5.out.chg HC.out (fun _ _ h => h)) HF.out).mono ?_
  rintro e w2 ⟨rfl, rfl⟩
  go_wp2_with fail
  refine (code_any 5 W).mono ?_
  rintro e w3 ⟨rfl, hb3⟩
  have hw3 := hb3.size
  have B3 := B2.out.chg (Chg.of_below (S := fun _ => False) hb3) (fun h => h)
  obtain ⟨a0, a1, a2, a3⟩ := ans_cells B3
  obtain ⟨b0, b1, b2, b3⟩ := ans_frozen B3
  have HB3 := Lib.hid B3
  have HC3 := Lib.hid hb3
  clear B3 hb3
  unfold ansV
  go_wp2_with fail
  generalize hZ : World.setCell (World.setCell (World.setCell (World.setCell w3 _ _) _ _) _ _) _ _ = W7
  have hZC : Chg (fun b => b = w.heap.size + 1) w3 W7 := by rw [← hZ]; exact ((((Chg.setCell (S := fun b => b = w.heap.size + 1) (Chg.refl _ w3) (p := ⟨w.heap.size + 1, 0, none⟩) (.inl rfl) _).setCell (p := ⟨w.heap.size + 1, 1, none⟩) (.inl rfl) _).setCell (p := ⟨w.heap.size + 1, 2, none⟩) (.inl rfl) _).setCell (p := ⟨w.heap.size + 1, 3, none⟩) (.inl rfl) _)
  have hA7 : Blk W7 (w.heap.size + 1) 40 #[.int .i64 5, .int .i64 0, .bool false, .slice none 0 0] := by rw [← hZ]; exact ans_set HB3.out
  clear hZ a0 a1 a2 a3 b0 b1 b2 b3
  have hcA : Chg (fun _ => False) w W7 := (HC.out.trans (Chg.of_below (S := fun _ => False) HC3.out) (fun _ _ h => h)).trans hZC (fun j hj e => by omega)
  refine bodyPost_ret (v := ansV 5 0 false none 0 0) (results_cell_row rfl _ _ _ _ _ _ _ (by rfl) hA7 Tryz.underlying40 rfl (by kernel_rfl)) rfl ?_
  exact ⟨5, 0, false, none, 0, 0, [], T, fun _ => False, L, _, _, _, rfl, hcA.mono (fun _ _ h => h.elim), fun _ h => .inl h, HS.out.chg hcA (fun _ _ h => h), Row.nil _ _ _ _, fun _ h => h.elim, rfl, rfl, rfl, rfl, rfl, rfl, rfl, rfl⟩

set_option maxRecDepth 100000 in
theorem reveal_key (bv k : Nat) (lp : Option Addr) (kd al ct out : Int) (A : Option Addr) (n c : Nat) (B : Option Addr) (m d : Nat) (A' : Option Addr) (n' c' : Nat) (L : Led) (T : Nat → Prop) (w : World) (held : List Bool) (vals : List Value) (mem : Nat → List Value)
    (hs : Sys w T bv lp L held vals mem) (hk : k < 64) (hq : held.getD k false = true) (hvk : vals[k]? = some (keyV (.slice A' n' c'))) (hn : n' ≤ 512) (hx : ∀ u ∈ (mem k).take n', u.oneCell' = true) :
    Calls Tryz.prog 71 #[ptr bv, .agg (opCells kd k al ct out A n c B m d).toArray] w
      (DoPost w T bv lp fun code h s bytes L' held' vals' mem' => code = 0 ∧ h = 0 ∧ s = false ∧ bytes = (mem k).take n' ∧ L' = L ∧ held' = held ∧ vals' = vals ∧ mem' = mem) := by
  have HS := Lib.hid hs
  obtain ⟨own, hv, hL⟩ := hs.shut
  obtain ⟨own1, bt, ms, h1, h2, h3, h4, h5, h6, h8⟩ := hv
  have hrow := h8 k A' n' c' hk hvk
  have c0 : w.cell? ⟨bv, 0, none⟩ = some (.pointer (some ⟨bt, 0, none⟩)) := h4.cell 0
  have H4 := Lib.hid h4
  have H5 := Lib.hid h5
  have HQ := Lib.hid hq
  have HVK := Lib.hid hvk
  have HX := Lib.hid hx
  have HR := Lib.hid hrow
  clear hL hs hq hvk h4 h5 h6 h8 hx hrow
  unfold ptr opCells
  go_enter Tryz.func71, Tryz.ntmps71
  go_wp2_with fail
  generalize hW : World.alloc (World.alloc w _) _ = W
  have B2 : Hid (Blk W (w.heap.size + 1) 40 #[.int .i64 0, .int .i64 0, .bool false, .slice none 0 0]) := by rw [← hW]; exact Blk.newAt _ _ _ _ (by simp)
  have HC : Hid (Chg (fun _ => False) w W) := by rw [← hW]; exact ((Chg.refl _ w).alloc _).alloc _
  have HWs : W.heap.size = w.heap.size + 2 := by rw [← hW]; simp
  clear hW
  refine (keyAt_key bv bt k A' n' c' held vals _ W ((H4.out.chg HC.out (fun h => h)).cell 0) (H5.out.chg HC.out (fun _ _ h => h)) hk HQ.out HVK.out).mono ?_
  rintro e w2 ⟨rfl, hb2⟩
  have hw2 := hb2.size
  have HB2 := Lib.hid hb2
  clear hb2
  go_wp2_with fail
  refine (copied_any A' n' c' ((mem k).take n') w2 (.of_row ((HR.out.chg HC.out (fun _ _ h => h)).chg (Chg.of_below (S := fun _ => False) HB2.out) (fun _ _ h => h))) (by simpa using HR.out.len) HX.out (by omega)).mono ?_
  rintro e w3 ⟨A3, c3, rfl, hb3, hr3⟩
  have hw3 := hb3.size
  have B3 := (B2.out.chg (Chg.of_below (S := fun _ => False) HB2.out) (fun h => h)).chg (Chg.of_below (S := fun _ => False) hb3) (fun h => h)
  obtain ⟨a0, a1, a2, a3⟩ := ans_cells B3
  obtain ⟨b0, b1, b2, b3⟩ := ans_frozen B3
  have HB3 := Lib.hid B3
  have HC3 := Lib.hid hb3
  have HR3 := Lib.hid hr3
  clear B3 hb3 hr3
  go_wp2_with fail
  generalize hZ : World.setCell (World.setCell (World.setCell (World.setCell w3 _ _) _ _) _ _) _ _ = W7
  have hZC : Chg (fun b => b = w.heap.size + 1) w3 W7 := by rw [← hZ]; exact ((((Chg.setCell (S := fun b => b = w.heap.size + 1) (Chg.refl _ w3) (p := ⟨w.heap.size + 1, 0, none⟩) (.inl rfl) _).setCell (p := ⟨w.heap.size + 1, 1, none⟩) (.inl rfl) _).setCell (p := ⟨w.heap.size + 1, 2, none⟩) (.inl rfl) _).setCell (p := ⟨w.heap.size + 1, 3, none⟩) (.inl rfl) _)
  have hA7 : Blk W7 (w.heap.size + 1) 40 #[.int .i64 0, .int .i64 0, .bool false, .slice A3 n' c3] := by rw [← hZ]; exact ans_set HB3.out
  clear hZ a0 a1 a2 a3 b0 b1 b2 b3
  have hcA : Chg (fun _ => False) w W7 := ((HC.out.trans (Chg.of_below (S := fun _ => False) HB2.out) (fun _ _ h => h)).trans (Chg.of_below (S := fun _ => False) HC3.out) (fun _ _ h => h)).trans hZC (fun j hj e => by omega)
  refine bodyPost_ret (v := ansV 0 0 false A3 n' c3) (results_cell_row rfl _ _ _ _ _ _ _ (by rfl) hA7 Tryz.underlying40 rfl (by kernel_rfl)) rfl ?_
  exact ⟨0, 0, false, A3, n', c3, (mem k).take n', fun j => T j ∧ j < w.heap.size, fun j => w2.heap.size ≤ j, L, _, _, _, rfl, hcA.mono (fun _ _ h => h.elim), fun _ h => .inl h.1, HS.out.shut.chg hcA (fun _ _ h => h), HR3.out.chg hZC (fun j hj e => by omega), fun j h => ⟨by omega, fun h' => by have := h'.2; omega⟩, rfl, rfl, rfl, rfl, rfl, rfl, rfl, rfl⟩
end Go.Proofs.YtpifjikpojikgaaGreatR
