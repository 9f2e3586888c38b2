/- The vault: Do, out of the contract of the method that the kind calls. -/
import Derived.Test.YtpifjikpojikgaaGreatRSys
import Derived.Deep.QuietTactic
import Derived.BigQuiet
import Derived.Deep.RegionWith
import Derived.Deep.RegionHeld3
import Derived.Deep.DrawnRows
namespace Go.Proofs.YtpifjikpojikgaaGreatR
open Go.RowKit
attribute [local go_sem ↓] Go.wp_at_zero Go.wp_at_succ

theorem vaultAt_cells {w : World} {S : Nat → Prop} {bv : Nat} {lp : Option Addr} {held : List Bool} {vals : List Value} {mem : Nat → List Value} (h : VaultAt w S bv lp held vals mem) :
    ∃ bt, w.cell? ⟨bv, 0, none⟩ = some (.pointer (some ⟨bt, 0, none⟩)) ∧ w.cell? ⟨bv, 1, none⟩ = some (.pointer lp) ∧ bv < w.heap.size := by
  obtain ⟨own, bt, ms, h1, h2, h3, h4, h5, h6⟩ := h
  exact ⟨bt, h4.cell 0, h4.cell 1, h4.lt⟩

theorem op_cells {w : World} {b : Nat} {t : TypeId} {k h al ct out : Int} {A B : Option Addr} {n c m d : Nat} (hb : Blk w b t (opCells k h al ct out A n c B m d).toArray) :
    w.cell? ⟨b, 0, none⟩ = some (.int .u8 k) ∧ w.cell? ⟨b, 1, none⟩ = some (.int .i64 h) ∧ w.cell? ⟨b, 2, none⟩ = some (.int .u8 al) ∧ w.cell? ⟨b, 3, none⟩ = some (.int .i64 ct) ∧
    w.cell? ⟨b, 4, none⟩ = some (.int .i64 out) ∧ w.cell? ⟨b, 5, none⟩ = some (.slice A n c) ∧ w.cell? ⟨b, 6, none⟩ = some (.slice B m d) :=
  ⟨hb.cell 0, hb.cell 1, hb.cell 2, hb.cell 3, hb.cell 4, hb.cell 5, hb.cell 6⟩
theorem ans_cells {w : World} {b : Nat} {t : TypeId} {v0 v1 v2 v3 : Value} (hb : Blk w b t #[v0, v1, v2, v3]) :
    w.cell? ⟨b, 0, none⟩ = some v0 ∧ w.cell? ⟨b, 1, none⟩ = some v1 ∧ w.cell? ⟨b, 2, none⟩ = some v2 ∧ w.cell? ⟨b, 3, none⟩ = some v3 :=
  ⟨hb.cell 0, hb.cell 1, hb.cell 2, hb.cell 3⟩
theorem ans_frozen {w : World} {b : Nat} {t : TypeId} {v0 v1 v2 v3 : Value} (hb : Blk w b t #[v0, v1, v2, v3]) :
    w.frozen? ⟨b, 0, none⟩ = false ∧ w.frozen? ⟨b, 1, none⟩ = false ∧ w.frozen? ⟨b, 2, none⟩ = false ∧ w.frozen? ⟨b, 3, none⟩ = false :=
  ⟨hb.frozen 0, hb.frozen 1, hb.frozen 2, hb.frozen 3⟩
theorem ans_set {w : World} {b : Nat} {t : TypeId} {v0 v1 v2 v3 u0 u1 u2 u3 : Value} (hb : Blk w b t #[v0, v1, v2, v3]) :
    Blk ((((w.setCell ⟨b, 0, none⟩ u0).setCell ⟨b, 1, none⟩ u1).setCell ⟨b, 2, none⟩ u2).setCell ⟨b, 3, none⟩ u3) b t #[u0, u1, u2, u3] :=
  (((hb.set_ 0 u0).set_ 1 u1).set_ 2 u2).set_ 3 u3

/-- What the last note keeps. -/
theorem tail_keep {W7 w8 : World} {T1 T5 : Nat → Prop} {own : Nat → Bool} {bv ba br n5 : Nat} {lp : Option Addr} {held : List Bool} {vals : List Value} {mem : Nat → List Value} {cs ds : Array Value} {t : TypeId}
    (ht : ∀ k, T1 k → T5 k ∨ n5 ≤ k) (hv : VaultAt W7 (fun k => (T1 k ∧ k < W7.heap.size) ∧ own k = true) bv lp held vals mem) (ha : Blk W7 ba t cs) (hr : Blk W7 br t ds)
    (hn : ba < n5 ∧ br < n5 ∧ ¬ T5 ba ∧ ¬ T5 br) (hc : Chg (fun k => (T1 k ∧ k < W7.heap.size) ∧ own k = false) W7.drew w8) :
    VaultAt w8 (fun k => (T1 k ∧ k < W7.heap.size) ∧ own k = true) bv lp held vals mem ∧ Blk w8 ba t cs ∧ Blk w8 br t ds := by
  refine ⟨hv.drew.chg hc (fun k h1 h2 => by have := h1.2; rw [h2.2] at this; cases this), ha.drew.chg hc (fun h => ?_), hr.drew.chg hc (fun h => ?_)⟩
  · rcases ht _ h.1.1 with h | h
    · exact hn.2.2.1 h
    · omega
  · rcases ht _ h.1.1 with h | h
    · exact hn.2.2.2 h
    · omega

set_option maxRecDepth 100000 in
set_option maxHeartbeats 1600000 in
theorem do_of (bv i F : Nat) (lp : Option Addr) (k h al ct out : Int) (A : Option Addr) (n c : Nat) (B : Option Addr) (m d : Nat) (L : Led) (T : Nat → Prop) (w : World)
    (held : List Bool) (vals : List Value) (mem : Nat → List Value) (hs : Sys w T bv lp L held vals mem) (hlen : L.runs.length ≤ 1099511627000) (hk0 : 0 ≤ k) (hk1 : k < 256)
    (hf : Instr.findNow (.int .u8) (.int .u8 k) (entries bv) 0 = some (some (i, .func (.func F) #[ptr bv] #[])))
    (hen : ∀ args w, (callFunc F args).run Tryz.prog w = .ok (.enter F args) w)
    (R : Int → Int → Bool → List Value → Led → List Bool → List Value → (Nat → List Value) → Prop)
    (hRl : ∀ code h s bytes L' held' vals' mem', R code h s bytes L' held' vals' mem' → L'.runs.length ≤ 1099511627000)
    (hm : ∀ W T', Chg T w W → (∀ k, T' k → T k ∨ w.heap.size ≤ k) → Sys W T' bv lp (L.note 11 k 1) held vals mem → Calls Tryz.prog F #[ptr bv, .agg (opCells k h al ct out A n c B m d).toArray] W (DoPost W T' bv lp R)) :
    Calls Tryz.prog 13 #[ptr bv, .agg (opCells k h al ct out A n c B m d).toArray] w
      (DoPost w T bv lp (fun code h s bytes L' held' vals' mem' => ∃ h0 s0 b0 L0, R code h0 s0 b0 L0 held' vals' mem' ∧ L' = L0.note 12 code 1 ∧ (code = 0 → h = h0 ∧ s = s0 ∧ bytes = b0) ∧ (code ≠ 0 → h = 0 ∧ s = false ∧ bytes = []))) := by
  obtain ⟨own, hv, hL⟩ := hs.shut
  obtain ⟨bt, c0, c1, hlt⟩ := vaultAt_cells hv
  have hC0 : Hid (∀ o o' : Obj, ((w.alloc o).alloc o').cell? ⟨bv, 0, none⟩ = some (ptr bt)) := Lib.hid fun o o' => (World.cell?_alloc_past o' bv 0 (by simp; omega)).trans ((World.cell?_alloc_past o bv 0 hlt).trans c0)
  have HV := Lib.hid hv
  have HL := Lib.hid hL
  have HF := Lib.hid hf
  have HM := Lib.hid hm
  have HRL := Lib.hid hRl
  clear hv hL hf hs hm hRl
  have hk2 : IntKind.i64.wrap k = k := IntWalk.i64_in _ (by omega)
  unfold opCells ptr at *
  go_enter Tryz.func13, Tryz.ntmps13
  go_wp2_with fail
  refine (vaultIs_any bv bt _ (hC0.out _ _)).mono ?_
  rintro e w' ⟨rfl, rfl⟩
  generalize hW : World.alloc (World.alloc w _) _ = W
  have HB : Blk W w.heap.size 37 (opCells k h al ct out A n c B m d).toArray := by rw [← hW]; exact (Blk.new w _ _).alloc _
  have HBr : Blk W (w.heap.size + 1) 40 #[.int .i64 0, .int .i64 0, .bool false, .slice none 0 0] := by rw [← hW]; exact Blk.newAt _ _ _ _ (by simp)
  have HC : Hid (Chg (fun _ => False) w W) := by rw [← hW]; exact ((Chg.refl _ w).alloc _).alloc _
  have HV1 := Lib.hid (HV.out.chg HC.out (fun _ _ h => h))
  have HL1 := Lib.hid (HL.out.chg HC.out (fun _ _ h => h))
  have d0 : W.cell? ⟨bv, 0, none⟩ = some (.pointer (some ⟨bt, 0, none⟩)) := by rw [← hW]; exact hC0.out _ _
  have d1 : W.cell? ⟨bv, 1, none⟩ = some (.pointer lp) := by rw [← hW]; exact (World.cell?_alloc_past _ bv 1 (by simp; omega)).trans ((World.cell?_alloc_past _ bv 1 hlt).trans c1)
  have d2 : W.cell? ⟨w.heap.size, 0, none⟩ = some (.int .u8 k) := HB.cell 0
  have d4 : W.heap.size = w.heap.size + 2 := by rw [← hW]; simp
  have HB1 := Lib.hid HB
  have HR1 := Lib.hid HBr
  clear hW c0 c1 HB HBr
  go_wp2_with fail
  have hsep : ∀ k, k = w.heap.size ∨ k = w.heap.size + 1 → ¬ ((T k ∧ k < w.heap.size) ∧ own k = false) := fun k e h => by have := h.1.2; omega
  have hNB : ∀ W1 w2, Blk W1 w.heap.size 37 (opCells k h al ct out A n c B m d).toArray → Chg (fun k => (T k ∧ k < w.heap.size) ∧ own k = false) W1 w2 → Blk w2 w.heap.size 37 (opCells k h al ct out A n c B m d).toArray := fun W1 w2 hb hc => hb.chg hc (hsep _ (.inl rfl))
  have hNV : ∀ W1 w2, VaultAt W1 (fun k => (T k ∧ k < w.heap.size) ∧ own k = true) bv lp held vals mem → Chg (fun k => (T k ∧ k < w.heap.size) ∧ own k = false) W1 w2 → VaultAt w2 (fun k => (T k ∧ k < w.heap.size) ∧ own k = true) bv lp held vals mem :=
    fun W1 w2 hv hc => hv.chg hc (fun k h1 h2 => by have := h1.2; rw [h2.2] at this; cases this)
  have HNB := Lib.hid hNB
  have HNV := Lib.hid hNV
  have HSEP := Lib.hid hsep
  clear hNB hNV hsep
  go_region_held3 (fun w' => w'.cell? ⟨bv, 1, none⟩ = some (.pointer lp) ∧ w'.cell? ⟨w.heap.size, 0, none⟩ = some (.int .u8 k))
    (first | go_keep | exact ⟨k1, k2⟩)
    ((go_at_call 43; refine (note_any 11 k lp L _ _ HL1.out.drew (by omega)).mono ?_; rintro e w2 ⟨rfl, hc2, hl2⟩; have HB2 := Lib.hid (HNB.out _ _ HB1.out.drew hc2); have HV2 := Lib.hid (HNV.out _ _ HV1.out.drew hc2); have HC2 := Lib.hid hc2; have HL2 := Lib.hid hl2; obtain ⟨bt2, k0, k1, k3⟩ := vaultAt_cells HV2.out; have k2 : w2.cell? ⟨w.heap.size, 0, none⟩ = some (.int .u8 k) := HB2.out.cell 0; clear hc2 hl2))
  have hW2 : W.heap.size ≤ w2.heap.size := HC2.out.size
  have HBr2 := Lib.hid (HR1.out.drew.chg HC2.out (HSEP.out _ (.inr rfl)))
  have HS2 : Hid (Sys w2 (fun k => ((T k ∧ k < w.heap.size) ∨ W.heap.size ≤ k) ∧ k < w2.heap.size) bv lp (L.note 11 k 1) held vals mem) := Lib.hid (Sys.led (w := W.drew) (own := own) HV1.out.drew HC2.out HL2.out).shut
  clear d0 d1 d2 k1 k2 k0
  go_wp2_with fail
  generalize hX : World.alloc w2 _ = W3
  have HB3 : Blk W3 w.heap.size 37 (opCells k h al ct out A n c B m d).toArray := by rw [← hX]; exact HB2.out.alloc _
  have HBr3 : Blk W3 (w.heap.size + 1) 40 #[.int .i64 0, .int .i64 0, .bool false, .slice none 0 0] := by rw [← hX]; exact HBr2.out.alloc _
  have HA3 : Blk W3 w2.heap.size 40 #[.int .i64 3, .int .i64 0, .bool false, .slice none 0 0] := by rw [← hX]; exact Blk.new _ _ _
  have HC3 : Hid (Chg (fun _ => False) w2 W3) := by rw [← hX]; exact (Chg.refl _ w2).alloc _
  have e0 : W3.cell? ⟨w.heap.size, 0, none⟩ = some (.int .u8 k) := HB3.cell 0
  have hlk : (Instr.lookup 95 (.map (some W3.heap.size)) (.int .u8 k) true).run Tryz.prog ((W3.alloc (.map (ce bv 10) 10)).drew) = .ok (.tuple #[.func (.func F) #[.pointer (some ⟨bv, 0, none⟩)] #[], .bool true]) ((W3.alloc (.map (ce bv 10) 10)).drew) :=
    run_lookup bv i k _ _ _ (heap_alloc_new W3.drew _) HF.out
  have HB3' := Lib.hid HB3
  have HBr3' := Lib.hid HBr3
  have HA3' := Lib.hid HA3
  clear hX HB3 HBr3 HA3
  go_region_held3 (fun w' => w'.cell? ⟨w.heap.size, 0, none⟩ = some (.int .u8 k))
    (go_keep)
    ((go_at_call 44; refine (calls_any bv _).mono ?_; rintro e w4 ⟨rfl, rfl⟩))
  generalize hY : World.drew (World.alloc W3 _) = W5
  have HB5 : Hid (Blk W5 w.heap.size 37 (opCells k h al ct out A n c B m d).toArray) := by rw [← hY]; exact (HB3'.out.alloc _).drew
  have HBr5 : Hid (Blk W5 (w.heap.size + 1) 40 #[.int .i64 0, .int .i64 0, .bool false, .slice none 0 0]) := by rw [← hY]; exact (HBr3'.out.alloc _).drew
  have HA5 : Hid (Blk W5 w2.heap.size 40 #[.int .i64 3, .int .i64 0, .bool false, .slice none 0 0]) := by rw [← hY]; exact (HA3'.out.alloc _).drew
  have HC5 : Hid (Chg (fun _ => False) w2 W5) := by rw [← hY]; exact (HC3.out.alloc _).drew
  have HS5 := Lib.hid (HS2.out.chg HC5.out (fun _ _ h => h))
  obtain ⟨o0, o1, o2, o3, o4, o5, o6⟩ := op_cells HB5.out
  clear hY e0 hlk
  go_wp2_with fail
  have HCA : Chg T w W5 := ((HC.out.mono (T := T) (fun _ _ h => h.elim)).drew.trans (HC2.out.mono (T := T) (fun _ _ h => h.1.1)) (fun _ _ h => h)).trans (HC5.out.mono (T := T) (fun _ _ h => h.elim)) (fun _ _ h => h)
  refine (HM.out W5 _ HCA (fun k hk => by rcases hk.1 with h | h; exact .inl h.1; exact .inr (by omega)) HS5.out).mono ?_
  clear HCA
  rintro e w6 ⟨code, hh, ss, A', n', c', bytes, T1, X, L1, held', vals', mem', rfl, hc6, ht1, hs6, hrow, hx, hR⟩
  have hl6 := HRL.out _ _ _ _ _ _ _ _ hR
  have hA6 := HA5.out.chg hc6 (fun h => by have := h.2; omega)
  have hB6 := HB5.out.chg hc6 (fun h => by have := h.1; have := h.2; omega)
  have hBr6 := HBr5.out.chg hc6 (fun h => by have := h.1; have := h.2; omega)
  obtain ⟨a0, a1, a2, a3⟩ := ans_cells hA6
  obtain ⟨b0, b1, b2, b3⟩ := ans_frozen hA6
  have HA6 := Lib.hid hA6
  have HB6 := Lib.hid hB6
  have HBr6 := Lib.hid hBr6
  have HP6 := Lib.hid (And.intro hc6 (And.intro ht1 (And.intro hs6 (And.intro hrow (And.intro hx hR)))))
  clear hA6 hB6 hBr6 hc6 ht1 hs6 hrow hx hR o0 o1 o2 o3 o4 o5 o6
  have HN : Hid (w2.heap.size < W5.heap.size ∧ w.heap.size + 1 < W5.heap.size ∧ ¬ ((((T w2.heap.size ∧ w2.heap.size < w.heap.size) ∨ W.heap.size ≤ w2.heap.size)) ∧ w2.heap.size < w2.heap.size) ∧ ¬ (((T (w.heap.size + 1) ∧ w.heap.size + 1 < w.heap.size) ∨ W.heap.size ≤ w.heap.size + 1) ∧ w.heap.size + 1 < w2.heap.size)) :=
    Lib.hid ⟨HA5.out.lt, by have := HA5.out.lt; omega, by omega, by omega⟩
  unfold ansV
  by_cases hcz : code = 0
  · subst hcz
    go_wp2_with fail
    generalize hZ : World.setCell (World.setCell (World.setCell (World.setCell w6 _ _) _ _) _ _) _ _ = W7
    obtain ⟨hc6, ht1, hs6, hrow, hx, hR⟩ := HP6.out
    have hlt5 := HA5.out.lt
    have hZC : Chg (fun b => b = w2.heap.size) w6 W7 := by rw [← hZ]; exact ((((Chg.setCell (S := fun b => b = w2.heap.size) (Chg.refl _ w6) (p := ⟨w2.heap.size, 0, none⟩) (.inl rfl) _).setCell (p := ⟨w2.heap.size, 1, none⟩) (.inl rfl) _).setCell (p := ⟨w2.heap.size, 2, none⟩) (.inl rfl) _).setCell (p := ⟨w2.heap.size, 3, none⟩) (.inl rfl) _)
    have hA7 : Blk W7 w2.heap.size 40 #[.int .i64 0, .int .i64 hh, .bool ss, .slice A' n' c'] := by rw [← hZ]; exact ans_set HA6.out
    have hT1 : ∀ k, T1 k → ¬ k = w2.heap.size := fun k h1 e => by
      rcases ht1 k h1 with h | h
      · have := h.2; omega
      · omega
    have hT2 : ∀ k, T1 k → ¬ k = w.heap.size + 1 := fun k h1 e => by
      rcases ht1 k h1 with h | h
      · have h' := h.1; have := h.2; omega
      · omega
    have hBr7 := HBr6.out.chg hZC (by omega)
    obtain ⟨own7, hv7, hl7⟩ := (hs6.chg hZC hT1).shut
    obtain ⟨bt7, p0, p1, p2⟩ := vaultAt_cells hv7
    obtain ⟨q0, q1, q2, q3⟩ := ans_cells hA7
    have HV7 := Lib.hid hv7
    have HL7 := Lib.hid hl7
    have HA7 := Lib.hid hA7
    have HBr7 := Lib.hid hBr7
    have HZC := Lib.hid hZC
    clear hZ hv7 hl7 hA7 hBr7 hZC hc6 ht1 hs6 hrow hx hR hT1 hT2 a0 a1 a2 a3 b0 b1 b2 b3
    go_region_held3 (fun w' => w'.cell? ⟨bv, 1, none⟩ = some (.pointer lp) ∧ w'.cell? ⟨w2.heap.size, 0, none⟩ = some (.int .i64 0))
      (first | go_keep | exact ⟨k1, k2⟩)
      ((go_at_call 43; refine (note_any 12 0 lp L1 _ _ HL7.out.drew (by omega)).mono ?_; rintro e w8 ⟨rfl, hc8, hl8⟩; obtain ⟨hv8, ha8, hr8⟩ := tail_keep HP6.out.2.1 HV7.out HA7.out HBr7.out HN.out hc8; have HV8 := Lib.hid hv8; have HA8 := Lib.hid ha8; have HBr8 := Lib.hid hr8; have HC8 := Lib.hid hc8; have HL8 := Lib.hid hl8; obtain ⟨bt8, k0, k1, k3⟩ := vaultAt_cells hv8; have k2 : w8.cell? ⟨w2.heap.size, 0, none⟩ = some (.int .i64 0) := ha8.cell 0; clear hc8 hl8 hv8 ha8 hr8))
    obtain ⟨x0, x1, x2, x3⟩ := ans_cells HA8.out
    obtain ⟨y0, y1, y2, y3⟩ := ans_cells HBr8.out
    obtain ⟨z0, z1, z2, z3⟩ := ans_frozen HBr8.out
    clear k0 k1 k2 p0 p1 p2 q0 q1 q2 q3
    go_wp2_with fail
    generalize hE : World.setCell (World.setCell (World.setCell (World.setCell w8 _ _) _ _) _ _) _ _ = W9
    have hBr9 : Blk W9 (w.heap.size + 1) 40 #[.int .i64 0, .int .i64 hh, .bool ss, .slice A' n' c'] := by rw [← hE]; exact ans_set HBr8.out
    have hC9 : Chg (fun b => b = w.heap.size + 1) w8 W9 := by
      rw [← hE]
      exact ((((Chg.setCell (S := fun b => b = w.heap.size + 1) (Chg.refl _ w8) (p := ⟨w.heap.size + 1, 0, none⟩) (.inl rfl) _).setCell (p := ⟨w.heap.size + 1, 1, none⟩) (.inl rfl) _).setCell (p := ⟨w.heap.size + 1, 2, none⟩) (.inl rfl) _).setCell (p := ⟨w.heap.size + 1, 3, none⟩) (.inl rfl) _)
    refine bodyPost_ret (v := .agg #[.int .i64 0, .int .i64 hh, .bool ss, .slice A' n' c']) (results_cell_row rfl _ _ _ _ _ _ _ (by rfl) hBr9 Tryz.underlying40 rfl (by kernel_rfl)) rfl ?_
    exact do_end HC.out d4 HC2.out HC5.out HA5.out.lt HP6.out.1 HP6.out.2.1 HZC.out HV7.out HC8.out HL8.out hC9 HP6.out.2.2.2.1 HP6.out.2.2.2.2.1 ⟨hh, ss, bytes, L1, HP6.out.2.2.2.2.2, rfl, fun _ => ⟨rfl, rfl, rfl⟩, fun h => (h rfl).elim⟩
  · have hcz' : (code != 0) = true := by simpa using hcz
    go_wp2_with fail
    generalize hZ : World.setCell (World.setCell (World.setCell (World.setCell (World.setCell (World.setCell (World.setCell (World.setCell w6 _ _) _ _) _ _) _ _) _ _) _ _) _ _) _ _ = W7
    obtain ⟨hc6, ht1, hs6, hrow, hx, hR⟩ := HP6.out
    have hlt5 := HA5.out.lt
    have hZC : Chg (fun b => b = w2.heap.size) w6 W7 := by rw [← hZ]; exact (((((((((Chg.setCell (S := fun b => b = w2.heap.size) (Chg.refl _ w6) (p := ⟨w2.heap.size, 0, none⟩) (.inl rfl) _).setCell (p := ⟨w2.heap.size, 1, none⟩) (.inl rfl) _).setCell (p := ⟨w2.heap.size, 2, none⟩) (.inl rfl) _).setCell (p := ⟨w2.heap.size, 3, none⟩) (.inl rfl) _).setCell (p := ⟨w2.heap.size, 0, none⟩) (.inl rfl) _).setCell (p := ⟨w2.heap.size, 1, none⟩) (.inl rfl) _).setCell (p := ⟨w2.heap.size, 2, none⟩) (.inl rfl) _).setCell (p := ⟨w2.heap.size, 3, none⟩) (.inl rfl) _))
    have hA7 : Blk W7 w2.heap.size 40 #[.int .i64 code, .int .i64 0, .bool false, .slice none 0 0] := by rw [← hZ]; exact ans_set (ans_set HA6.out)
    have hT1 : ∀ k, T1 k → ¬ k = w2.heap.size := fun k h1 e => by
      rcases ht1 k h1 with h | h
      · have := h.2; omega
      · omega
    have hT2 : ∀ k, T1 k → ¬ k = w.heap.size + 1 := fun k h1 e => by
      rcases ht1 k h1 with h | h
      · have h' := h.1; have := h.2; omega
      · omega
    have hBr7 := HBr6.out.chg hZC (by omega)
    obtain ⟨own7, hv7, hl7⟩ := (hs6.chg hZC hT1).shut
    obtain ⟨bt7, p0, p1, p2⟩ := vaultAt_cells hv7
    obtain ⟨q0, q1, q2, q3⟩ := ans_cells hA7
    have HV7 := Lib.hid hv7
    have HL7 := Lib.hid hl7
    have HA7 := Lib.hid hA7
    have HBr7 := Lib.hid hBr7
    have HZC := Lib.hid hZC
    clear hZ hv7 hl7 hA7 hBr7 hZC hc6 ht1 hs6 hrow hx hR hT1 hT2 a0 a1 a2 a3 b0 b1 b2 b3
    go_region_held3 (fun w' => w'.cell? ⟨bv, 1, none⟩ = some (.pointer lp) ∧ w'.cell? ⟨w2.heap.size, 0, none⟩ = some (.int .i64 code))
      (first | go_keep | exact ⟨k1, k2⟩)
      ((go_at_call 43; refine (note_any 12 code lp L1 _ _ HL7.out.drew (by omega)).mono ?_; rintro e w8 ⟨rfl, hc8, hl8⟩; obtain ⟨hv8, ha8, hr8⟩ := tail_keep HP6.out.2.1 HV7.out HA7.out HBr7.out HN.out hc8; have HV8 := Lib.hid hv8; have HA8 := Lib.hid ha8; have HBr8 := Lib.hid hr8; have HC8 := Lib.hid hc8; have HL8 := Lib.hid hl8; obtain ⟨bt8, k0, k1, k3⟩ := vaultAt_cells hv8; have k2 : w8.cell? ⟨w2.heap.size, 0, none⟩ = some (.int .i64 code) := ha8.cell 0; clear hc8 hl8 hv8 ha8 hr8))
    obtain ⟨x0, x1, x2, x3⟩ := ans_cells HA8.out
    obtain ⟨y0, y1, y2, y3⟩ := ans_cells HBr8.out
    obtain ⟨z0, z1, z2, z3⟩ := ans_frozen HBr8.out
    clear k0 k1 k2 p0 p1 p2 q0 q1 q2 q3
    go_wp2_with fail
    generalize hE : World.setCell (World.setCell (World.setCell (World.setCell w8 _ _) _ _) _ _) _ _ = W9
    have hBr9 : Blk W9 (w.heap.size + 1) 40 #[.int .i64 code, .int .i64 0, .bool false, .slice none 0 0] := by rw [← hE]; exact ans_set HBr8.out
    have hC9 : Chg (fun b => b = w.heap.size + 1) w8 W9 := by
      rw [← hE]
      exact ((((Chg.setCell (S := fun b => b = w.heap.size + 1) (Chg.refl _ w8) (p := ⟨w.heap.size + 1, 0, none⟩) (.inl rfl) _).setCell (p := ⟨w.heap.size + 1, 1, none⟩) (.inl rfl) _).setCell (p := ⟨w.heap.size + 1, 2, none⟩) (.inl rfl) _).setCell (p := ⟨w.heap.size + 1, 3, none⟩) (.inl rfl) _)
    refine bodyPost_ret (v := .agg #[.int .i64 code, .int .i64 0, .bool false, .slice none 0 0]) (results_cell_row rfl _ _ _ _ _ _ _ (by rfl) hBr9 Tryz.underlying40 rfl (by kernel_rfl)) rfl ?_
    exact do_end HC.out d4 HC2.out HC5.out HA5.out.lt HP6.out.1 HP6.out.2.1 HZC.out HV7.out HC8.out HL8.out hC9 (Row.nil w6 X 5 1) HP6.out.2.2.2.2.1 ⟨hh, ss, bytes, L1, HP6.out.2.2.2.2.2, rfl, fun h => (hcz h).elim, fun _ => ⟨rfl, rfl, rfl⟩⟩
end Go.Proofs.YtpifjikpojikgaaGreatR
