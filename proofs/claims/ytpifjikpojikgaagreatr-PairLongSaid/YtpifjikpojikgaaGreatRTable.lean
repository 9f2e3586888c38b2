/- The table: New, Add, Get. -/
import Derived.Test.YtpifjikpojikgaaGreatRLedger2
import Derived.Test.YtpifjikpojikgaaGreatRLaws
import Derived.Deep.QuietTactic
import Derived.BigQuiet
import Derived.BigRegion
import Derived.Laws.MakeOwn
import Derived.Laws.Entries
namespace Go.Proofs.YtpifjikpojikgaaGreatR
open Go.RowKit

/-- The table at block bt: which of the 64 numbers are held, and what each stands for. -/
def TableAt (w : World) (S : Nat → Prop) (bt : Nat) (held : List Bool) (vals : List Value) : Prop :=
  ∃ bh bx, S bt ∧ S bh ∧ S bx ∧ Blk w bt 122 #[.slice (some ⟨bh, 0, none⟩) 64 64, .slice (some ⟨bx, 0, none⟩) 64 64] ∧
    Blk w bh 4 (held.map Value.bool).toArray ∧ Blk w bx 81 vals.toArray ∧ held.length = 64 ∧ vals.length = 64
theorem TableAt.chg {w w' : World} {S T : Nat → Prop} {bt : Nat} {held : List Bool} {vals : List Value} (h : TableAt w S bt held vals) (hc : Chg T w w') (hd : ∀ k, S k → ¬ T k) : TableAt w' S bt held vals := by
  obtain ⟨bh, bx, h1, h2, h3, h4, h5, h6, h7⟩ := h
  exact ⟨bh, bx, h1, h2, h3, h4.chg hc (hd _ h1), h5.chg hc (hd _ h2), h6.chg hc (hd _ h3), h7⟩
theorem TableAt.retag {w : World} {S T : Nat → Prop} {bt : Nat} {held : List Bool} {vals : List Value} (h : TableAt w S bt held vals) (hS : ∀ k, k < w.heap.size → S k → T k) : TableAt w T bt held vals := by
  obtain ⟨bh, bx, h1, h2, h3, h4, h5, h6, h7⟩ := h
  exact ⟨bh, bx, hS _ h4.lt h1, hS _ h5.lt h2, hS _ h6.lt h3, h4, h5, h6, h7⟩

theorem run_make_rowN {P : Program} (t e : TypeId) (i : TypeInfo) (z : Value) (ht : P.underlying t = some (.slice e)) (hi : P.info? e = some i) (hz : i.zero = some z)
    (kl kc : IntKind) (n c : Nat) (hnc : n ≤ c) (hbytes : i.bytes * c ≤ 281474976710656) (h63 : c ≤ 9223372036854775807) (w : World) :
    (Instr.makeSlice t (.int kl (n : Int)) (.int kc (c : Int))).run P w = .ok (.slice (some ⟨w.heap.size, 0, none⟩) n c) (w.alloc (.cells (madeCells z.cells (c * i.size)) e)) := by
  have hb : (i.bytes : Int) * (c : Int) ≤ 281474976710656 := by
    have h : ((i.bytes * c : Nat) : Int) ≤ 281474976710656 := by omega
    rwa [Int.natCast_mul] at h
  have hr := run_make (P := P) w t e i z ht hi hz kl kc n c (by omega) (by omega) hb (by omega)
  simp only [Int.toNat_natCast] at hr
  exact hr

theorem bool_info : (Tryz.prog.info? 4).map (fun i => (i.zero, i.size, i.bytes)) = some (some (.bool false), 1, 1) := by kernel_rfl
theorem thing_info : (Tryz.prog.info? 81).map (fun i => (i.zero, i.size, i.bytes)) = some (some .nilIface, 1, 16) := by kernel_rfl

theorem made64 (z : Value) : madeCells #[z] 64 = (List.replicate 64 z).toArray := by
  apply Array.toList_inj.1
  rw [toList_madeCells_one]

def falses : Array Value := ((List.replicate 64 false).map Value.bool).toArray
def nils : Array Value := (List.replicate 64 Value.nilIface).toArray
set_option maxRecDepth 100000 in
theorem tableNew_any (w : World) : Calls Tryz.prog 38 #[.int .i64 64] w fun e w' =>
    ∃ bt, e = .returned (.tuple #[.pointer (some ⟨bt, 0, none⟩), .int .i64 0]) ∧ Below w.heap.size w w' ∧ TableAt w' (fun k => w.heap.size ≤ k) bt (List.replicate 64 false) (List.replicate 64 .nilIface) := by
  obtain ⟨ib, hb0, hb1, hb2, hb3⟩ := info_parts bool_info
  obtain ⟨it, ht0, ht1, ht2, ht3⟩ := info_parts thing_info
  have hmb : ∀ W, (Instr.makeSlice 119 (.int .i64 64) (.int .i64 64)).run Tryz.prog W = .ok (.slice (some ⟨W.heap.size, 0, none⟩) 64 64) (W.alloc (.cells falses 4)) := fun W => by
    have h := run_make_rowN (P := Tryz.prog) 119 4 ib _ Tryz.underlying119 hb0 hb1 .i64 .i64 64 64 (by omega) (by omega) (by omega) W
    rw [hb2] at h
    have e : falses = madeCells #[Value.bool false] 64 := by rw [made64]; rfl
    rw [e]
    exact h
  have hmt : ∀ W, (Instr.makeSlice 120 (.int .i64 64) (.int .i64 64)).run Tryz.prog W = .ok (.slice (some ⟨W.heap.size, 0, none⟩) 64 64) (W.alloc (.cells nils 81)) := fun W => by
    have h := run_make_rowN (P := Tryz.prog) 120 81 it _ Tryz.underlying120 ht0 ht1 .i64 .i64 64 64 (by omega) (by omega) (by omega) W
    rw [ht2] at h
    have e : nils = madeCells #[Value.nilIface] 64 := by rw [made64]; rfl
    rw [e]
    exact h
  go_enter Tryz.func38, Tryz.ntmps38
  go_wp2_with fail
  go_region
  all_goals go_wp2_with fail
  all_goals go_ret2
  all_goals refine ⟨w.heap.size + 2, rfl, (((((Below.refl _ _).alloc (Nat.le_refl _) _).alloc (by simp) _).alloc (by simp; omega) _).drew), ?_⟩
  · exact ⟨w.heap.size, w.heap.size + 1, by omega, by omega, by omega, (Blk.newAt _ _ _ _ (by simp)).drew, (((Blk.newAt _ _ _ _ rfl).alloc _).alloc _).drew, ((Blk.newAt _ _ _ _ (by simp)).alloc _).drew, List.length_replicate, List.length_replicate⟩
  · exact ⟨w.heap.size + 1, w.heap.size, by omega, by omega, by omega, (Blk.newAt _ _ _ _ (by simp)).drew, ((Blk.newAt _ _ _ _ (by simp)).alloc _).drew, (((Blk.newAt _ _ _ _ rfl).alloc _).alloc _).drew, List.length_replicate, List.length_replicate⟩

theorem made_any (bt : Nat) (A : Option Addr) (c : Nat) (w : World) (c0 : w.cell? ⟨bt, 0, none⟩ = some (.slice A 64 c)) :
    Calls Tryz.prog 60 #[.pointer (some ⟨bt, 0, none⟩)] w fun e w' => e = .returned (.bool true) ∧ w = w' := by
  go_enter Tryz.func60, Tryz.ntmps60
  go_wp2_with fail
  go_ret
  exact ⟨rfl, rfl⟩

/-- Is the number h held? -/
def isHeld (held : List Bool) (h : Int) : Bool := decide (0 ≤ h ∧ h < 64) && held.getD h.toNat false
set_option maxRecDepth 100000 in
theorem has_any (bt bh : Nat) (h : Int) (held : List Bool) (w : World) (c0 : w.cell? ⟨bt, 0, none⟩ = some (.slice (some ⟨bh, 0, none⟩) 64 64)) (hb : Blk w bh 4 (held.map Value.bool).toArray) (hl : held.length = 64) :
    Calls Tryz.prog 114 #[.pointer (some ⟨bt, 0, none⟩), .int .i64 h] w fun e w' =>
      e = .returned (.bool (isHeld held h)) ∧ w = w' := by
  by_cases h0 : 0 ≤ h ∧ h < 64
  · have hx : Hid (isHeld held h = held.getD h.toNat false) := Lib.hid (by simp [isHeld, h0])
    obtain ⟨ha, hb'⟩ := h0
    obtain ⟨k, rfl⟩ := Int.eq_ofNat_of_zero_le ha
    have hk : k < 64 := by omega
    have hc : w.cell? ⟨bh, k, none⟩ = some (.bool (held.getD (k : Int).toNat false)) := by
      rw [hb.cell k]
      simp [List.getD, hl, hk]
    rw [hx.out]
    generalize held.getD (k : Int).toNat false = u at hc
    clear hb hx
    go_enter Tryz.func114, Tryz.ntmps114
    go_wp2_with fail
    go_ret
    exact ⟨rfl, rfl⟩
  · have hx : isHeld held h = false := by simp [isHeld, h0]
    rw [hx]
    clear hb hx
    by_cases h1 : 0 ≤ h
    · have h2 : ¬ h < 64 := fun h2 => h0 ⟨h1, h2⟩
      clear h0
      go_enter Tryz.func114, Tryz.ntmps114
      go_wp2_with fail
      go_ret
      exact ⟨rfl, rfl⟩
    · clear h0
      go_enter Tryz.func114, Tryz.ntmps114
      go_wp2_with fail
      go_ret
      exact ⟨rfl, rfl⟩

set_option maxRecDepth 100000 in
/-- Get: what a number that is held stands for. -/
theorem get_held (bt : Nat) (h : Nat) (held : List Bool) (vals : List Value) (S : Nat → Prop) (w : World) (v : Value) (ht : TableAt w S bt held vals) (hh : h < 64) (hv : vals[h]? = some v) (hq : held.getD h false = true) :
    Calls Tryz.prog 92 #[.pointer (some ⟨bt, 0, none⟩), .int .i64 h] w fun e w' =>
      e = .returned (.tuple #[v, .int .i64 0]) ∧ w = w' := by
  obtain ⟨bh, bx, h1, h2, h3, h4, h5, h6, h7, h8⟩ := ht
  have c0 : w.cell? ⟨bt, 0, none⟩ = some (.slice (some ⟨bh, 0, none⟩) 64 64) := h4.cell 0
  have c1 : w.cell? ⟨bt, 1, none⟩ = some (.slice (some ⟨bx, 0, none⟩) 64 64) := h4.cell 1
  have c2 : w.cell? ⟨bx, h, none⟩ = some v := by rw [h6.cell h]; simpa using hv
  have hx : isHeld held (h : Int) = true := by simp only [isHeld, Int.toNat_natCast, hq, Bool.and_true, decide_eq_true_eq]; omega
  have H5 := Lib.hid h5
  have HX := Lib.hid hx
  have q0 : (0 : Int) ≤ (h : Int) := by omega
  have q1 : (h : Int) < 64 := by omega
  clear h4 h5 h6 hv hq hx h8
  go_enter Tryz.func92, Tryz.ntmps92
  go_wp2_with fail
  refine (made_any bt _ _ _ (by assumption)).mono ?_
  rintro e w' ⟨rfl, rfl⟩
  go_wp2_with fail
  refine (has_any bt bh h held _ (by assumption) H5.out h7).mono ?_
  rw [HX.out]
  rintro e w' ⟨rfl, rfl⟩
  go_wp2_with fail
  go_ret2
  exact ⟨rfl, rfl⟩

set_option maxRecDepth 100000 in
/-- Get: a number that is not held. -/
theorem get_not (bt : Nat) (h : Int) (held : List Bool) (vals : List Value) (S : Nat → Prop) (w : World) (ht : TableAt w S bt held vals) (hx : isHeld held h = false) :
    Calls Tryz.prog 92 #[.pointer (some ⟨bt, 0, none⟩), .int .i64 h] w fun e w' =>
      e = .returned (.tuple #[.nilIface, .int .i64 5]) ∧ w = w' := by
  obtain ⟨bh, bx, h1, h2, h3, h4, h5, h6, h7, h8⟩ := ht
  have c0 : w.cell? ⟨bt, 0, none⟩ = some (.slice (some ⟨bh, 0, none⟩) 64 64) := h4.cell 0
  have H5 := Lib.hid h5
  have HX := Lib.hid hx
  clear h4 h5 h6 hx h8
  go_enter Tryz.func92, Tryz.ntmps92
  go_wp2_with fail
  refine (made_any bt _ _ _ (by assumption)).mono ?_
  rintro e w' ⟨rfl, rfl⟩
  go_wp2_with fail
  refine (has_any bt bh h held _ (by assumption) H5.out h7).mono ?_
  rw [HX.out]
  rintro e w' ⟨rfl, rfl⟩
  go_wp2_with fail
  go_ret2
  exact ⟨rfl, rfl⟩
end Go.Proofs.YtpifjikpojikgaaGreatR
