/- The vault: take, put, reveal. -/
import Derived.Test.YtpifjikpojikgaaGreatRVault4
namespace Go.Proofs.YtpifjikpojikgaaGreatR
open Go.RowKit
attribute [local go_sem ↓] Go.wp_at_zero Go.wp_at_succ

/-- What take leaves, told of the parts: the new thing is a key whose bytes lie in X. -/
theorem VaultAt.put_in {w w2 w3 : World} {S X : Nat → Prop} {own : Nat → Nat} {bv bt k N n c : Nat} {A : Option Addr} {ms : List Nat} {lp : Option Addr} {held : List Bool} {vals : List Value} {mem : Nat → List Value} {xs ys : List Value}
    (hSN : ∀ j, S j → j < N) (hXN : ∀ j, X j → N ≤ j) (h1 : S bv) (h2 : own bv = 0) (h3 : ms.length = 64) (h4 : Blk w bv 87 (ptr bt :: .pointer lp :: ms.map ptr).toArray) (h6 : ∀ h, h < 64 → MemAt w (fun k => S k ∧ own k = h + 1) (ms.getD h 0) (mem h))
    (h7 : KeysAt w S own vals mem) (hk : k < 64) (hvl : vals.length = 64) (hc : Chg (fun k => (S k ∧ own k = 0) ∧ k ≠ bv) w w2) (ht : TableAt w2 (fun k => S k ∧ own k = 0) bt (held.set k true) (vals.set k (keyV (.slice A n c))))
    (hc2 : Chg (fun j => S j ∧ own j = k + 1) w2 w3) (hm : MemAt w3 (fun j => S j ∧ own j = k + 1) (ms.getD k 0) (xs ++ ys)) (hn : xs.length = n) (hrow : Row w3 X 5 1 (.slice A n c) n xs) :
    VaultAt w3 (fun j => S j ∨ X j) bv lp (held.set k true) (vals.set k (keyV (.slice A n c))) (fun h => if h = k then xs ++ ys else mem h) := by
  have hup : ∀ i j, (S j ∧ own j = i) → ((S j ∨ X j) ∧ (if j < N then own j else k + 1) = i) := fun i j h => ⟨.inl h.1, by simp [hSN j h.1, h.2]⟩
  refine ⟨fun j => if j < N then own j else k + 1, bt, ms, .inl h1, by simp [hSN _ h1, h2], h3, (h4.chg hc (fun h => h.2 rfl)).chg hc2 (fun h => by have := h.2; omega),
    (ht.chg hc2 (fun j hj h => by have := hj.2; have := h.2; omega)).retag (fun j _ h => hup 0 j h), fun i hi => ?_, fun i A' n' c' hi hv => ?_⟩
  · by_cases e : i = k
    · subst e
      simpa using hm.retag (T := fun j => (S j ∨ X j) ∧ (if j < N then own j else i + 1) = i + 1) (fun j _ h => hup _ j h)
    · simp only [e, if_false]
      exact (((h6 i hi).chg hc (fun j hj h => by have := hj.2; have := h.1.2; omega)).chg hc2 (fun j hj h => by have := hj.2; have := h.2; omega)).retag (fun j _ h => hup _ j h)
  · by_cases e : i = k
    · subst e
      rw [List.getElem?_set_self (by omega)] at hv
      simp only [Option.some.injEq, keyV, Value.iface.injEq, true_and, Value.agg.injEq, Array.mk.injEq, List.cons.injEq, and_true, Value.slice.injEq] at hv
      obtain ⟨rfl, rfl, rfl⟩ := hv
      have e2 : List.take n (xs ++ ys) = xs := by rw [List.take_append_of_le_length (by omega), List.take_of_length_le (by omega)]
      simp only [if_true, e2]
      exact hrow.retag (fun j _ h => ⟨.inr h, by have := hXN j h; simp [show ¬ j < N by omega]⟩)
    · rw [List.getElem?_set_ne (fun h => e h.symm)] at hv
      simp only [e, if_false]
      exact (((h7 i A' n' c' hi hv).chg hc (fun j hj h => by have := hj.2; have := h.1.2; omega)).chg hc2 (fun j hj h => by have := hj.2; have := h.2; omega)).retag (fun j _ h => hup _ j h)

theorem TableAt.off {w : World} {T : Nat → Prop} {bt bv : Nat} {held : List Bool} {vals : List Value} {cs : Array Value} (h : TableAt w T bt held vals) (hb : Blk w bv 87 cs) :
    TableAt w (fun j => T j ∧ j ≠ bv ∧ j < w.heap.size) bt held vals := by
  obtain ⟨bh, bx, a1, a2, a3, a4, a5, a6, a7⟩ := h
  exact ⟨bh, bx, ⟨a1, a4.ne_ hb (by decide), a4.lt⟩, ⟨a2, a5.ne_ hb (by decide), a5.lt⟩, ⟨a3, a6.ne_ hb (by decide), a6.lt⟩, a4, a5, a6, a7⟩

theorem MemAt.drew {w : World} {S : Nat → Prop} {m : Nat} {cs : List Value} (h : MemAt w S m cs) : MemAt w.drew S m cs := h
theorem Src.drew {w : World} {A : Option Addr} {xs : List Value} (h : Src w A xs) : Src w.drew A xs := h
theorem nil_ahead_key (x : Value) (w : World) : (nilAhead 430 143 (.agg #[x]) "turnkey/vault.form").run Tryz.prog w = .ok (some false) w := by kernel_rfl
theorem method_key (x : Value) (w : World) : (method 430 143 (.agg #[x]) "turnkey/vault.form").run Tryz.prog w = .ok (251, .agg #[x]) w := by kernel_rfl

set_option maxRecDepth 100000 in
theorem take_key (bv k N : Nat) (A : Option Addr) (n c : Nat) (xs : List Value) (S X : Nat → Prop) (w : World) (lp : Option Addr) (held : List Bool) (vals : List Value) (mem : Nat → List Value)
    (hv : VaultAt w S bv lp held vals mem) (hk : k < 64) (hlo : ∀ j, j < k → held.getD j false = true) (hfr : held.getD k false = false)
    (hSN : ∀ j, S j → j < N) (hXN : ∀ j, X j → N ≤ j) (hNw : N ≤ w.heap.size) (hR : Row w X 5 1 (.slice A n c) n xs) (hn2 : n ≤ 1024) (hx : ∀ u ∈ xs, u.oneCell' = true) :
    Calls Tryz.prog 79 #[ptr bv, keyV (.slice A n c)] w fun e w' =>
      e = .returned (ansV 0 k false none 0 0) ∧ Chg S w w' ∧ VaultAt w' (fun j => S j ∨ (X j ∧ j < w.heap.size)) bv lp (held.set k true) (vals.set k (keyV (.slice A n c))) (fun h => if h = k then xs ++ List.replicate (1024 - n) (.int .u8 0) else mem h) := by
  obtain ⟨own, bt, ms, h1, h2, h3, h4, h5, h6, h8⟩ := hv
  have hvl : vals.length = 64 := by obtain ⟨_, _, _, _, _, _, _, _, _, h⟩ := h5; exact h
  have hA : Src w A xs := .of_row hR
  have hn : xs.length = n := by simpa using hR.len
  have hR' : Row w (fun j => X j ∧ j < w.heap.size) 5 1 (.slice A n c) n xs := hR.retag (fun j h1 h => ⟨h, h1⟩)
  have hS : ∀ a, A = some a → ¬ S a.block := fun a ha h => by
    rcases hR.open_ with ⟨e, _⟩ | ⟨g, cap, cur, e, hh⟩
    · simp only [Value.slice.injEq] at e; rw [ha] at e; exact absurd e.1 (by simp)
    · simp only [Value.slice.injEq] at e; rw [ha] at e; have e1 := e.1; simp only [Option.some.injEq] at e1; rw [e1] at h; have h5' := hSN _ h; have h6' := hXN g hh.1; exact absurd h5' (Nat.not_lt.2 h6')
  have H8 := Lib.hid h8
  have HR := Lib.hid hR'
  clear h8 hR hR'
  have h7 := h5.off h4
  have c0 : w.cell? ⟨bv, 0, none⟩ = some (.pointer (some ⟨bt, 0, none⟩)) := h4.cell 0
  have H4 := Lib.hid h4
  have H5 := Lib.hid h7
  have H6 := Lib.hid h6
  have HLO := Lib.hid hlo
  have HFR := Lib.hid hfr
  have HA := Lib.hid hA
  have HSA := Lib.hid hS
  have HN := Lib.hid hn
  have HX := Lib.hid hx
  have hlt := h4.lt
  clear h4 h5 h6 hlo hfr hA hS hn hx h7
  have hC0 : Hid (∀ o : Obj, (w.alloc o).cell? ⟨bv, 0, none⟩ = some (.pointer (some ⟨bt, 0, none⟩))) := Lib.hid fun o => (World.cell?_alloc_past o bv 0 hlt).trans c0
  unfold keyV
  have NA := nil_ahead_key (.slice A n c)
  have MK := method_key (.slice A n c)
  unfold ptr at *
  go_enter Tryz.func79, Tryz.ntmps79
  go_wp2_with fail
  generalize hW : World.alloc w _ = W
  have B1 : Hid (Blk W w.heap.size 40 #[.int .i64 0, .int .i64 0, .bool false, .slice none 0 0]) := by rw [← hW]; exact Blk.new w _ _
  have HC : Hid (Chg (fun _ => False) w W) := by rw [← hW]; exact (Chg.refl _ w).alloc _
  have H41 := Lib.hid (H4.out.chg HC.out (fun h => h))
  have H51 := Lib.hid (H5.out.chg HC.out (fun _ _ h => h))
  clear hW c0 hC0
  refine (add_free bt k (.iface 143 (.agg #[.slice A n c])) _ _ rfl held vals _ _ H51.out hk HLO.out HFR.out).mono ?_
  rintro e w2 ⟨rfl, hc2, ht2⟩
  have HT2 := Lib.hid ht2
  have HC2 := Lib.hid hc2
  have B2 := Lib.hid (B1.out.chg hc2 (fun h => by have := h.2.2; omega))
  have H42 := Lib.hid (H41.out.chg hc2 (fun h => h.2.1 rfl))
  have c1 : w2.cell? ⟨bv, 2 + k, none⟩ = some (ptr (ms.getD k 0)) := by
    rw [H42.out.cell (2 + k)]
    simp [show 2 + k = k + 1 + 1 by omega, List.getD_eq_getElem?_getD, List.getElem?_eq_getElem (show k < ms.length by omega), ptr]
  clear hc2 ht2
  unfold ptr at c1
  have HM := Lib.hid ((H6.out k hk).chg HC.out (fun _ _ h => h) |>.chg HC2.out (fun j hj h => by have := hj.2; have := h.1.2; omega))
  have HA2 := Lib.hid (HA.out.chg (HC.out.mono (T := fun _ => False) (fun _ _ h => h)) (fun _ _ h => h) |>.chg HC2.out (fun a ha h => HSA.out a ha h.1.1))
  generalize hmk : ms.getD k 0 = m at c1 HM
  have hP : ∀ w3, Below w2.drew.heap.size w2.drew w3 → Calls Tryz.prog 87 #[.pointer (some ⟨m, 0, none⟩), .slice A n c] w3 fun e w' =>
      e = .returned (.int .i64 0) ∧ Chg (fun j => S j ∧ own j = k + 1) w3 w' ∧ MemAt w' (fun j => S j ∧ own j = k + 1) m (xs ++ List.replicate (1024 - n) (.int .u8 0)) := fun w3 hb =>
    put_any m (mem k) _ _ A n c xs (HM.out.drew.chg (Chg.of_below (S := fun _ => False) hb) (fun _ _ h => h)) (HA2.out.drew.chg (Chg.of_below (S := fun _ => False) hb) (fun _ _ h => h)) (fun a ha h => HSA.out a ha h.1) HN.out hn2 HX.out
  have HP := Lib.hid hP
  clear hP
  have i1 : (0 : Int) ≤ ↑k := by omega
  have i2 : (↑k : Int) < 64 := by omega
  have i3 : (↑k : Int) < ↑(64 : Nat) := by omega
  go_wp2_with fail
  go_region_held3 (fun w' => w'.cell? ⟨bv, 2 + k, none⟩ = some (.pointer (some ⟨m, 0, none⟩)))
    (first | go_keep | exact k1)
    (first
      | (go_at_call 251; refine (keyForm_any _ _).mono ?_; rintro e w3 ⟨rfl, hb3⟩; have k1 : w3.cell? ⟨bv, 2 + k, none⟩ = some (.pointer (some ⟨m, 0, none⟩)) := (hb3.cell (p := ⟨bv, 2 + k, none⟩) (H42.out.lt)).trans c1; have HB3 := Lib.hid hb3; clear hb3)
      | (go_at_call 87; refine (HP.out _ HB3.out).mono ?_; rintro e w4 ⟨rfl, hc4, hm4⟩; have k1 : w4.cell? ⟨bv, 2 + k, none⟩ = some (.pointer (some ⟨m, 0, none⟩)) := (World.cell?_of_block (hc4.block bv (Nat.lt_of_lt_of_le H42.out.lt HB3.out.size) (fun h => by have := h.2; omega))).trans k1; have HC4 := Lib.hid hc4; have HM4 := Lib.hid hm4; clear hc4 hm4))
  have hw3 := HB3.out.size
  have hwW := HC.out.size
  have hw2 := HC2.out.size
  have B4 := ((B2.out.drew.chg (Chg.of_below (S := fun _ => False) HB3.out) (fun h => h)).chg HC4.out (fun h => by have := hSN _ h.1; omega))
  obtain ⟨a0, a1, a2, a3⟩ := ans_cells B4
  obtain ⟨b0, b1, b2, b3⟩ := ans_frozen B4
  have B5 := Lib.hid B4
  clear B4 k1 c1
  go_wp2_with fail
  generalize hZ : World.setCell (World.setCell (World.setCell (World.setCell w4 _ _) _ _) _ _) _ _ = W7
  have hZC : Chg (fun b => b = w.heap.size) w4 W7 := by rw [← hZ]; exact ((((Chg.setCell (S := fun b => b = w.heap.size) (Chg.refl _ w4) (p := ⟨w.heap.size, 0, none⟩) (.inl rfl) _).setCell (p := ⟨w.heap.size, 1, none⟩) (.inl rfl) _).setCell (p := ⟨w.heap.size, 2, none⟩) (.inl rfl) _).setCell (p := ⟨w.heap.size, 3, none⟩) (.inl rfl) _)
  have hA7 : Blk W7 w.heap.size 40 #[.int .i64 0, .int .i64 ↑k, .bool false, .slice none 0 0] := by rw [← hZ]; exact ans_set B5.out
  clear hZ a0 a1 a2 a3 b0 b1 b2 b3
  have hc02 : Chg (fun j => (S j ∧ own j = 0) ∧ j ≠ bv) w w2 := (HC.out.mono (T := fun j => (S j ∧ own j = 0) ∧ j ≠ bv) (fun _ _ h => h.elim)).trans HC2.out (fun _ _ h => ⟨h.1, h.2.1⟩)
  have hc24 : Chg (fun j => S j ∧ own j = k + 1) w2 w4 := ((Chg.refl (fun j => S j ∧ own j = k + 1) w2).drew.trans (Chg.of_below (S := fun j => S j ∧ own j = k + 1) HB3.out) (fun _ _ h => h)).trans HC4.out (fun _ _ h => h)
  have hv4 := VaultAt.put_in (S := S) (N := N) (X := fun j => X j ∧ j < w.heap.size) hSN (fun j h => hXN j h.1) h1 h2 h3 H4.out H6.out H8.out hk hvl hc02 (HT2.out.retag (fun _ _ h => h.1)) hc24 (by rw [hmk]; exact HM4.out) HN.out ((HR.out.chg hc02 (fun j hj h => by have := hSN j h.1.1; have := hXN j hj.1; omega)).chg hc24 (fun j hj h => by have := hSN j h.1; have := hXN j hj.1; omega))
  refine bodyPost_ret (v := ansV 0 k false none 0 0) (results_cell_row rfl _ _ _ _ _ _ _ (by rfl) hA7 Tryz.underlying40 rfl (by kernel_rfl)) rfl ⟨rfl, ?_, ?_⟩
  · exact ((hc02.mono (fun _ _ h => h.1.1)).trans hc24 (fun _ _ h => h.1)).trans hZC (fun j hj e => by omega)
  · exact hv4.chg hZC (fun j hj e => by rcases hj with h | h; have := hSN _ h; omega; have := h.2; omega)
end Go.Proofs.YtpifjikpojikgaaGreatR
