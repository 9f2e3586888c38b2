/- The vault: New. -/
import Derived.Test.YtpifjikpojikgaaGreatRTable2
import Derived.Test.YtpifjikpojikgaaGreatRSlot
namespace Go.Proofs.YtpifjikpojikgaaGreatR
open Go.RowKit

def ptr (b : Nat) : Value := .pointer (some ⟨b, 0, none⟩)
/-- A key as a thing. -/
def keyV (v : Value) : Value := .iface 143 (.agg #[v])
/-- The bytes of each key that is held: in memory of their own; they are what its slot's memory begins with. -/
def KeysAt (w : World) (S : Nat → Prop) (own : Nat → Nat) (vals : List Value) (mem : Nat → List Value) : Prop :=
  ∀ h A n c, h < 64 → vals[h]? = some (keyV (.slice A n c)) → Row w (fun k => S k ∧ own k = h + 1) 5 1 (.slice A n c) n ((mem h).take n)
/-- The vault at block bv: its ledger, what is held, what stands there, the slots' memory. -/
def VaultAt (w : World) (S : Nat → Prop) (bv : Nat) (lp : Option Addr) (held : List Bool) (vals : List Value) (mem : Nat → List Value) : Prop :=
  ∃ (own : Nat → Nat) (bt : Nat) (ms : List Nat), S bv ∧ own bv = 0 ∧ ms.length = 64 ∧ Blk w bv 87 (ptr bt :: .pointer lp :: ms.map ptr).toArray ∧
    TableAt w (fun k => S k ∧ own k = 0) bt held vals ∧ (∀ h, h < 64 → MemAt w (fun k => S k ∧ own k = h + 1) (ms.getD h 0) (mem h)) ∧ KeysAt w S own vals mem
theorem VaultAt.chg {w w' : World} {S T : Nat → Prop} {bv : Nat} {lp : Option Addr} {held : List Bool} {vals : List Value} {mem : Nat → List Value} (h : VaultAt w S bv lp held vals mem) (hc : Chg T w w') (hd : ∀ k, S k → ¬ T k) : VaultAt w' S bv lp held vals mem := by
  obtain ⟨own, bt, ms, h1, h2, h3, h4, h5, h6, h7⟩ := h
  exact ⟨own, bt, ms, h1, h2, h3, h4.chg hc (hd _ h1), h5.chg hc (fun k hk => hd k hk.1), fun i hi => (h6 i hi).chg hc (fun k hk => hd k hk.1), fun i A n c hi hv => (h7 i A n c hi hv).chg hc (fun k hk => hd k hk.1)⟩
theorem VaultAt.retag {w : World} {S T : Nat → Prop} {bv : Nat} {lp : Option Addr} {held : List Bool} {vals : List Value} {mem : Nat → List Value} (h : VaultAt w S bv lp held vals mem) (hS : ∀ k, k < w.heap.size → S k → T k) : VaultAt w T bv lp held vals mem := by
  obtain ⟨own, bt, ms, h1, h2, h3, h4, h5, h6, h7⟩ := h
  exact ⟨own, bt, ms, hS _ h4.lt h1, h2, h3, h4, h5.retag (fun k hk h => ⟨hS k hk h.1, h.2⟩), fun i hi => (h6 i hi).retag (fun k hk h => ⟨hS k hk h.1, h.2⟩), fun i A n c hi hv => (h7 i A n c hi hv).retag (fun k hk h => ⟨hS k hk h.1, h.2⟩)⟩

theorem zeroVault : Tryz.zeroCells87 = (List.replicate 66 (Value.pointer none)).toArray := by kernel_rfl
def zeros : List Value := List.replicate 1024 (.int .u8 0)
/-- New's loop, k rounds being over. -/
def NewInv (w : World) (bv bt : Nat) (lp : Option Addr) (k : Nat) (wr : World) : Prop :=
  ∃ (own : Nat → Nat) (ms : List Nat), ms.length = k ∧ w.heap.size ≤ bv ∧ own bv = 0 ∧ Blk wr bv 87 (ptr bt :: .pointer lp :: (ms.map ptr ++ List.replicate (64 - k) (Value.pointer none))).toArray ∧
    TableAt wr (fun b => w.heap.size ≤ b ∧ own b = 0) bt (List.replicate 64 false) (List.replicate 64 .nilIface) ∧ (∀ h, h < k → MemAt wr (fun b => w.heap.size ≤ b ∧ own b = h + 1) (ms.getD h 0) zeros) ∧ Below w.heap.size w wr

theorem NewInv.start {w w1 : World} {bt : Nat} {lp : Option Addr} (hb : Below w.heap.size w w1) (ht : TableAt w1 (fun k => w.heap.size ≤ k) bt (List.replicate 64 false) (List.replicate 64 .nilIface)) :
    NewInv w w1.heap.size bt lp 0 (w1.alloc (.cells ((Tryz.zeroCells87.setIfInBounds 0 (.pointer (some ⟨bt, 0, none⟩))).setIfInBounds 1 (.pointer lp)) 87)) := by
  refine ⟨fun _ => 0, [], rfl, hb.size, rfl, ?_, ?_, fun h hh => by omega, hb.alloc hb.size _⟩
  · rw [zeroVault]
    exact Blk.new w1 _ _
  · exact (ht.retag (fun k _ h => ⟨h, rfl⟩)).chg ((Chg.refl (fun _ => False) w1).alloc _) (fun _ _ h => h)

theorem NewInv.step {w wr w2 : World} {bv bt k m : Nat} {lp : Option Addr} (h : NewInv w bv bt lp k wr) (hk : k < 64) (hb : Below wr.heap.size wr w2) (hm : MemAt w2 (fun b => wr.heap.size ≤ b) m zeros) :
    NewInv w bv bt lp (k + 1) (w2.setCell ⟨bv, 2 + k, none⟩ (ptr m)) := by
  obtain ⟨own, ms, h1, h2, h3, h4, h5, h6, h7⟩ := h
  have hlt := h4.lt
  have hC : Chg (fun _ => False) wr w2 := .of_below hb
  have hC2 : Chg (fun b => b = bv) wr (w2.setCell ⟨bv, 2 + k, none⟩ (ptr m)) := Chg.setCell (S := fun b => b = bv) (hC.mono fun _ _ h => h.elim) (p := ⟨bv, 2 + k, none⟩) (.inl rfl) _
  have hnt : ∀ T hd vl, TableAt wr T bt hd vl → TableAt w2 T bt hd vl := fun T hd vl ht => ht.chg hC fun _ _ h => h
  refine ⟨fun b => if b < wr.heap.size then own b else k + 1, ms ++ [m], by simp [h1], h2, by simp [hlt, h3], ?_, ?_, ?_, (h7.trans (hb.mono h7.size)).setCell (p := ⟨bv, 2 + k, none⟩) h2 _⟩
  · have := (h4.chg hC (fun h => h)).set_ (2 + k) (ptr m)
    simp only [List.setIfInBounds_toArray] at this
    have e : (ptr bt :: .pointer lp :: (ms.map ptr ++ List.replicate (64 - k) (Value.pointer none))).set (2 + k) (ptr m) = ptr bt :: .pointer lp :: ((ms ++ [m]).map ptr ++ List.replicate (64 - (k + 1)) (Value.pointer none)) := by
      obtain ⟨q, hq⟩ : ∃ q, 64 - k = q + 1 := ⟨63 - k, by omega⟩
      have hq' : 64 - (k + 1) = q := by omega
      rw [hq, hq', show 2 + k = k + 1 + 1 by omega, List.set_cons_succ, List.set_cons_succ, List.set_append_right _ _ (by simp [h1])]
      simp [h1, List.replicate_succ]
    rw [e] at this
    exact this
  · have h5' := hnt _ _ _ h5
    obtain ⟨bh, bx, a1, a2, a3, a4, a5, a6, a7⟩ := h5'
    obtain ⟨bh', bx', b1, b2, b3, b4, b5, b6, b7⟩ := h5
    have e1 : bh = bh' ∧ bx = bx' := by
      have := (a4.eq_ (b4.chg hC (fun h => h))).2
      simp at this; exact this
    obtain ⟨rfl, rfl⟩ := e1
    have n1 : bt ≠ bv := b4.ne_ h4 (by decide)
    have n2 : bh ≠ bv := b5.ne_ h4 (by decide)
    have n3 : bx ≠ bv := b6.ne_ h4 (by decide)
    have i1 := b4.lt
    have i2 := b5.lt
    have i3 := b6.lt
    exact ⟨bh, bx, ⟨a1.1, by simp [i1, a1.2]⟩, ⟨a2.1, by simp [i2, a2.2]⟩, ⟨a3.1, by simp [i3, a3.2]⟩, a4.far (p := ⟨bv, 2 + k, none⟩) n1 _, a5.far (p := ⟨bv, 2 + k, none⟩) n2 _, a6.far (p := ⟨bv, 2 + k, none⟩) n3 _, a7⟩
  · intro i hi
    by_cases hik : i < k
    · have hmi := h6 i hik
      have e : (ms ++ [m]).getD i 0 = ms.getD i 0 := by simp [List.getD, List.getElem?_append_left (show i < ms.length by omega)]
      rw [e]
      have hmi2 : MemAt wr (fun b => (w.heap.size ≤ b ∧ own b = i + 1) ∧ b < wr.heap.size) (ms.getD i 0) zeros := hmi.retag fun _ hk h => ⟨h, hk⟩
      refine (hmi2.chg hC2 (fun b hb e => ?_)).retag fun b _ hb => ⟨hb.1.1, by simp [hb.2, hb.1.2]⟩
      subst e
      have := hb.1.2
      omega
    · obtain rfl : i = k := by omega
      have e : (ms ++ [m]).getD i 0 = m := by simp [List.getD, h1]
      rw [e]
      have hself : Chg (fun b => b = bv) w2 (w2.setCell ⟨bv, 2 + i, none⟩ (ptr m)) := Chg.setCell (S := fun b => b = bv) (Chg.refl _ _) (p := ⟨bv, 2 + i, none⟩) (.inl rfl) _
      refine (hm.chg hself (fun b hb e => ?_)).retag fun b _ hb => ⟨Nat.le_trans h7.size hb, by simp [Nat.not_lt.2 hb]⟩
      subst e
      omega

theorem NewInv.cell {w wr : World} {bv bt k : Nat} {lp : Option Addr} (h : NewInv w bv bt lp k wr) (hk : k < 64) : wr.cell? ⟨bv, 2 + k, none⟩ = some (.pointer none) ∧ wr.frozen? ⟨bv, 2 + k, none⟩ = false ∧ bv < wr.heap.size := by
  obtain ⟨own, ms, h1, h2, h3, h4, h5, h6, h7⟩ := h
  refine ⟨?_, h4.frozen _, h4.lt⟩
  rw [h4.cell (2 + k)]
  obtain ⟨q, hq⟩ : ∃ q, 64 - k = q + 1 := ⟨63 - k, by omega⟩
  rw [hq, show 2 + k = k + 1 + 1 by omega]
  simp only [List.getElem?_toArray, List.getElem?_cons_succ]
  rw [List.getElem?_append_right (by simp [h1])]
  simp [h1, List.replicate_succ]

theorem NewInv.done {w wr : World} {bv bt : Nat} {lp : Option Addr} (h : NewInv w bv bt lp 64 wr) : Below w.heap.size w wr ∧ VaultAt wr (fun k => w.heap.size ≤ k) bv lp (List.replicate 64 false) (List.replicate 64 .nilIface) (fun _ => zeros) := by
  obtain ⟨own, ms, h1, h2, h3, h4, h5, h6, h7⟩ := h
  refine ⟨h7, own, bt, ms, h2, h3, h1, by simpa using h4, h5, h6, fun h A n c hh hv => ?_⟩
  rw [List.getElem?_replicate, if_pos hh] at hv
  cases hv

set_option maxRecDepth 100000 in
set_option maxHeartbeats 800000 in
theorem vaultNew_any (lp : Option Addr) (w : World) : Calls Tryz.prog 8 #[.pointer lp] w fun e w' =>
    ∃ bv, e = .returned (ptr bv) ∧ Below w.heap.size w w' ∧ VaultAt w' (fun k => w.heap.size ≤ k) bv lp (List.replicate 64 false) (List.replicate 64 .nilIface) (fun _ => zeros) := by
  go_enter Tryz.func8, Tryz.ntmps8
  go_wp2_with fail
  refine (tableNew_any _).mono ?_
  rintro e w1 ⟨bt, rfl, hb1, ht⟩
  have HN := Lib.hid (NewInv.start (lp := lp) hb1 ht)
  clear hb1 ht
  go_wp2_with fail
  go_loopw [16] (fun i wr => ∃ k : Nat, k ≤ 64 ∧ i = .int .i64 k ∧ Hid (NewInv w w1.heap.size bt lp k wr)) (fun i _ => 64 - (intOf i).toNat)
  case atStart => exact ⟨0, by omega, rfl, HN⟩
  case round =>
    obtain ⟨k, hk, rfl, hN⟩ := hrel
    by_cases hlt : k < 64
    · have q0 : (0 : Int) ≤ (k : Int) := by omega
      have q1 : (k : Int) < 64 := by omega
      have q2 : IntKind.i64.wrap ((k : Int) + 1) = (k : Int) + 1 := IntWalk.i64_in _ (by omega)
      obtain ⟨hc1, hc2, hc3⟩ := hN.out.cell hlt
      go_wp2_with fail
      go_region_with (go_at_call 39; refine (slotNew_any _).mono ?_; rintro e w2 ⟨rfl, hb2, hm2⟩; have k1 := (hb2.cell (p := ⟨w1.heap.size, 2 + k, none⟩) hc3).trans hc1; have k2 := (hb2.frozen (p := ⟨w1.heap.size, 2 + k, none⟩) hc3).trans hc2)
      all_goals
        have hst := Lib.hid (hN.out.step hlt ⟨hb2.os, hb2.tape, hb2.output, hb2.size, hb2.block⟩ hm2)
        clear k1 k2 hc1 hc2 hb2 hm2
        go_wp2_with fail
        go_roundw
        case rel => exact ⟨k + 1, by omega, by go_num, hst⟩
        case measure => simp [intOf]; omega
    · obtain rfl : k = 64 := by omega
      go_wp2_with fail
      go_ret
      exact ⟨_, rfl, hN.out.done⟩
end Go.Proofs.YtpifjikpojikgaaGreatR
