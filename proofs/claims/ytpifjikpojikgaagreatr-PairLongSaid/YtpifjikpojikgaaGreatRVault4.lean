/- The vault: small functions: an answer that is a code alone, copied bytes, a key's bytes, the key under a handle. -/
import Derived.Test.YtpifjikpojikgaaGreatRVault3
namespace Go.Proofs.YtpifjikpojikgaaGreatR
open Go.RowKit
attribute [local go_sem ↓] Go.wp_at_zero Go.wp_at_succ

theorem code_any (e : Int) (w : World) : Calls Tryz.prog 78 #[.int .i64 e] w fun x w' => x = .returned (ansV e 0 false none 0 0) ∧ Below w.heap.size w w' := by
  go_enter Tryz.func78, Tryz.ntmps78
  go_wp2_with fail
  refine bodyPost_ret (v := ansV e 0 false none 0 0) (results_cell_row rfl _ _ _ _ _ _ _ (by rfl) (Blk.new w _ _) Tryz.underlying40 rfl (by kernel_rfl)) rfl ⟨rfl, (Below.refl _ _).alloc (Nat.le_refl _) _⟩

theorem u8_info : (Tryz.prog.info? 5).map (fun i => (i.zero, i.size, i.bytes)) = some (some (.int .u8 0), 1, 1) := by kernel_rfl
/-- Bytes in memory of their own. -/
theorem copied_any (A : Option Addr) (n c : Nat) (xs : List Value) (w : World) (hA : Src w A xs) (hn : xs.length = n) (hx : ∀ u ∈ xs, u.oneCell' = true) (hl : n ≤ 1099511627776) :
    Calls Tryz.prog 80 #[.slice A n c] w fun e w' => ∃ A' c', e = .returned (.slice A' n c') ∧ Below w.heap.size w w' ∧ Row w' (fun k => w.heap.size ≤ k) 5 1 (.slice A' n c') n xs := by
  obtain ⟨i0, hi0, hz0, hz1, hz2⟩ := info_parts u8_info
  have HA := Lib.hid hA
  have HN := Lib.hid hn
  clear hA hn
  go_enter Tryz.func80, Tryz.ntmps80
  go_wp2_with (at_builtin; refine wpList_append_row _ (by rfl) _ _ _ (by rfl) 5 i0 _ 1 1 Tryz.underlying35 hi0 hz0 hz1 hz2 rfl (by omega) (.slice none 0 0) 0 [] (by rfl) (Row.nil _ (fun _ => False) _ _) A n c xs (by rfl) (by rw [HN.out]; omega) HA.out hx (by simp [maxLen]; omega) (by omega) ?_; intro A' cap' w1 hown hgrow _)
  go_ret
  simp only [Nat.zero_add, List.nil_append] at hown
  exact ⟨A', cap', rfl, (Below.refl _ _).grown hgrow (Nat.le_refl _) (fun k h => by simp [Value.ownBlock] at h), hown.retag fun k _ h => h.elim False.elim (fun h => by omega)⟩

theorem keyForm_any (v : Value) (w : World) : Calls Tryz.prog 251 #[.agg #[v]] w fun e w' => e = .returned v ∧ Below w.heap.size w w' := by
  go_enter Tryz.func251, Tryz.ntmps251
  go_wp2_with fail
  go_ret
  exact ⟨rfl, (Below.refl _ _).alloc (Nat.le_refl _) _⟩


set_option maxRecDepth 100000 in
theorem keyAt_not (bv bt : Nat) (h : Int) (held : List Bool) (vals : List Value) (S : Nat → Prop) (w : World) (c0 : w.cell? ⟨bv, 0, none⟩ = some (.pointer (some ⟨bt, 0, none⟩))) (ht : TableAt w S bt held vals) (hx : isHeld held h = false) :
    Calls Tryz.prog 81 #[ptr bv, .int .i64 h] w fun e w' => e = .returned (.tuple #[.slice none 0 0, .int .i64 5]) ∧ w = w' := by
  have HT := Lib.hid ht
  have HX := Lib.hid hx
  clear ht hx
  unfold ptr
  go_enter Tryz.func81, Tryz.ntmps81
  go_wp2_with fail
  refine (get_not bt h held vals S _ HT.out HX.out).mono ?_
  rintro e w' ⟨rfl, rfl⟩
  go_wp2_with fail
  go_ret2
  exact ⟨rfl, rfl⟩

theorem key_type (v : Value) (w : World) : (Instr.typeAssert (.iface 143 (.agg #[v])) 81 143 true).run Tryz.prog w = .ok (.tuple #[.agg #[v], .bool true]) w := by kernel_rfl

set_option maxRecDepth 100000 in
theorem keyAt_key (bv bt h : Nat) (A : Option Addr) (n c : Nat) (held : List Bool) (vals : List Value) (S : Nat → Prop) (w : World) (c0 : w.cell? ⟨bv, 0, none⟩ = some (.pointer (some ⟨bt, 0, none⟩))) (ht : TableAt w S bt held vals) (hh : h < 64)
    (hq : held.getD h false = true) (hv : vals[h]? = some (keyV (.slice A n c))) :
    Calls Tryz.prog 81 #[ptr bv, .int .i64 h] w fun e w' => e = .returned (.tuple #[.slice A n c, .int .i64 0]) ∧ Below w.heap.size w w' := by
  have HT := Lib.hid ht
  have HQ := Lib.hid hq
  have HV := Lib.hid hv
  clear ht hq hv
  unfold ptr
  go_enter Tryz.func81, Tryz.ntmps81
  go_wp2_with fail
  refine (get_held bt h held vals S _ (keyV (.slice A n c)) HT.out hh HV.out HQ.out).mono ?_
  unfold keyV
  rintro e w' ⟨rfl, rfl⟩
  have TA := key_type (.slice A n c)
  go_wp2_with fail
  go_ret2
  exact ⟨rfl, (Below.refl _ _).alloc (Nat.le_refl _) _⟩
end Go.Proofs.YtpifjikpojikgaaGreatR
