/- The slot's memory, and wiping. -/
import Derived.Test.YtpifjikpojikgaaGreatRLedger2
import Derived.Test.YtpifjikpojikgaaGreatRLaws
import Derived.Deep.QuietTactic
import Derived.BigQuiet
import Derived.Laws.CopyOwn
namespace Go.Proofs.YtpifjikpojikgaaGreatR
open Go.RowKit

theorem ctNote_any (k n : Int) (p : Option Addr) (L : Led) (S : Nat → Prop) (w : World) (h : LedAt w S p L) (hl : L.runs.length ≤ 1099511627776) :
    Calls Tryz.prog 129 #[.pointer p, .int .u8 k, .int .i64 n] w fun e w' =>
    e = .returned (.tuple #[]) ∧ Chg S w w' ∧ LedAt w' (fun k => S k ∨ w.heap.size ≤ k) p (L.note k n 1) := by
  have H := Lib.hid h
  clear h
  go_enter Tryz.func129, Tryz.ntmps129
  go_wp2_with fail
  refine (note_any k n p L S _ H.out hl).mono ?_
  rintro e w' ⟨rfl, hc, hL⟩
  have HC := Lib.hid hc
  have HL := Lib.hid hL
  clear hc hL
  go_wp2_with fail
  go_end0
  exact ⟨rfl, HC.out, HL.out⟩

/-- n noughts ahead of what is left. -/
def noughts (n : Nat) (cur : List Value) : List Value := List.replicate n (.int .u8 0) ++ cur.drop n
theorem length_noughts (n : Nat) (cur : List Value) (h : n ≤ cur.length) : (noughts n cur).length = cur.length := by simp [noughts]; omega
theorem noughts_set (n : Nat) (cur : List Value) (h : n < cur.length) : (noughts n cur).set n (.int .u8 0) = noughts (n + 1) cur := by
  unfold noughts
  have e : cur.drop n = cur[n] :: cur.drop (n + 1) := List.drop_eq_getElem_cons h
  rw [List.set_append_right _ _ (by simp), e]
  simp only [List.length_replicate, Nat.sub_self, List.set_cons_zero, List.replicate_succ', List.append_assoc, List.singleton_append]

set_option maxRecDepth 100000 in
theorem wipe_any (p : Option Addr) (L : Led) (S : Nat → Prop) (g n cap : Nat) (t : TypeId) (cur : List Value) (w : World) (hg : Blk w g t cur.toArray) (hn : n ≤ cur.length) (hn2 : n ≤ 1099511627776)
    (h : LedAt w S p L) (hd : ¬ S g) (hl : L.runs.length ≤ 1099511627776) :
    Calls Tryz.prog 109 #[.pointer p, .slice (some ⟨g, 0, none⟩) n cap] w fun e w' =>
    e = .returned (.tuple #[]) ∧ Blk w' g t (noughts n cur).toArray ∧ Chg (fun k => k = g ∨ S k) w w' ∧ LedAt w' (fun k => S k ∨ w.heap.size ≤ k) p (L.note 8 n 1) := by
  have H := Lib.hid h
  have HG := Lib.hid hg
  clear h hg
  go_enter Tryz.func109, Tryz.ntmps109
  go_wp2_with fail
  go_loopw [7] (fun i wr => ∃ k : Nat, k ≤ n ∧ i = .int .i64 k ∧ Hid (Blk wr g t (noughts k cur).toArray ∧ Chg (fun k => k = g) w wr)) (fun i _ => n - (intOf i).toNat)
  case atStart => exact ⟨0, Nat.zero_le _, rfl, Lib.hid ⟨by simpa [noughts] using HG.out, Chg.refl _ _⟩⟩
  case round =>
    obtain ⟨k, hk, rfl, hw⟩ := hrel
    by_cases hlt : k < n
    · have hc : wr.cell? ⟨g, k, none⟩ = some ((noughts k cur)[k]'(by rw [length_noughts _ _ (by omega)]; omega)) := by
        rw [hw.out.1.cell k]; simp
      have hf := hw.out.1.frozen k
      have q0 : (0 : Int) ≤ (k : Int) := by omega
      have q1 : (k : Int) < (n : Int) := by omega
      have q2 : IntKind.i64.wrap ((k : Int) + 1) = (k : Int) + 1 := IntWalk.i64_in _ (by omega)
      generalize (noughts k cur)[k]'(by rw [length_noughts _ _ (by omega)]; omega) = u at hc
      go_wp2_with fail
      go_roundw
      case rel =>
        refine ⟨k + 1, by omega, by go_num, Lib.hid ⟨?_, hw.out.2.setCell (p := ⟨g, k, none⟩) (.inl rfl) _⟩⟩
        have := hw.out.1.set_ k (.int .u8 0)
        simp only [List.setIfInBounds_toArray] at this
        rw [noughts_set k cur (by omega)] at this
        exact this
      case measure => simp [intOf]; omega
    · obtain rfl : k = n := by omega
      go_wp2_with fail
      refine (ctNote_any 8 k p L S _ (H.out.chg hw.out.2 (fun j h1 h2 => hd (h2 ▸ h1))) hl).mono ?_
      rintro e w' ⟨rfl, hc, hL⟩
      have HC := Lib.hid hc
      have HL := Lib.hid hL
      clear hc hL
      go_wp2_with fail
      go_end0
      exact ⟨rfl, hw.out.1.chg HC.out hd, (hw.out.2.mono fun j _ h => .inl h).trans HC.out (fun j _ h => .inr h), HL.out.retag fun j _ h => h.imp id (fun h => Nat.le_trans hw.out.2.size h)⟩

/-- The memory pointer at block m: a slot of 1024 cells. -/
def MemAt (w : World) (S : Nat → Prop) (m : Nat) (cs : List Value) : Prop :=
  ∃ s n, S m ∧ S s ∧ Blk w m 125 #[.pointer (some ⟨s, 0, none⟩), .int .i64 n] ∧ Blk w s 28 cs.toArray ∧ cs.length = 1024
theorem MemAt.chg {w w' : World} {S T : Nat → Prop} {m : Nat} {cs : List Value} (h : MemAt w S m cs) (hc : Chg T w w') (hd : ∀ k, S k → ¬ T k) : MemAt w' S m cs := by
  obtain ⟨s, n, h1, h2, h3, h4, h5⟩ := h
  exact ⟨s, n, h1, h2, h3.chg hc (hd _ h1), h4.chg hc (hd _ h2), h5⟩
theorem MemAt.retag {w : World} {S T : Nat → Prop} {m : Nat} {cs : List Value} (h : MemAt w S m cs) (hS : ∀ k, k < w.heap.size → S k → T k) : MemAt w T m cs := by
  obtain ⟨s, n, h1, h2, h3, h4, h5⟩ := h
  exact ⟨s, n, hS _ h3.lt h1, hS _ h4.lt h2, h3, h4, h5⟩

theorem zeroSlot : Tryz.zeroCells28 = (List.replicate 1024 (Value.int .u8 0)).toArray := by kernel_rfl

theorem slotNew_any (w : World) : Calls Tryz.prog 39 #[] w fun e w' => e = .returned (.pointer (some ⟨w.heap.size + 1, 0, none⟩)) ∧ Below w.heap.size w w' ∧
    MemAt w' (fun k => w.heap.size ≤ k) (w.heap.size + 1) (List.replicate 1024 (.int .u8 0)) := by
  go_enter Tryz.func39, Tryz.ntmps39
  go_wp2_with fail
  go_ret
  refine ⟨rfl, ((Below.refl _ _).alloc (Nat.le_refl _) _).alloc (by simp) _, w.heap.size, 0, by omega, by omega, Blk.newAt _ _ _ _ (by simp), ?_, List.length_replicate⟩
  rw [← zeroSlot]
  exact (Blk.new w _ _).alloc _

theorem memIs_any (m s : Nat) (w : World) (c0 : w.cell? ⟨m, 0, none⟩ = some (.pointer (some ⟨s, 0, none⟩))) :
    Calls Tryz.prog 73 #[.pointer (some ⟨m, 0, none⟩)] w fun e w' => e = .returned (.bool true) ∧ w = w' := by
  go_enter Tryz.func73, Tryz.ntmps73
  go_wp2_with fail
  go_ret
  exact ⟨rfl, rfl⟩

set_option maxRecDepth 100000 in
/-- Put: the memory is these bytes, and noughts behind them. -/
theorem put_any (m : Nat) (cs : List Value) (S : Nat → Prop) (w : World) (A : Option Addr) (n c : Nat) (xs : List Value) (h : MemAt w S m cs) (hA : Src w A xs) (hS : ∀ a, A = some a → ¬ S a.block)
    (hn : xs.length = n) (hn2 : n ≤ 1024) (hx : ∀ u ∈ xs, u.oneCell' = true) :
    Calls Tryz.prog 87 #[.pointer (some ⟨m, 0, none⟩), .slice A n c] w fun e w' =>
    e = .returned (.int .i64 0) ∧ Chg S w w' ∧ MemAt w' S m (xs ++ List.replicate (1024 - n) (.int .u8 0)) := by
  obtain ⟨s, q, h1, h2, h3, h4, h5⟩ := h
  have c0 : w.cell? ⟨m, 0, none⟩ = some (.pointer (some ⟨s, 0, none⟩)) := h3.cell 0
  have c1 : w.cell? ⟨m, 1, none⟩ = some (.int .i64 q) := h3.cell 1
  have f1 := h3.frozen 1
  have hn3 : (n : Int) ≤ 1024 := by omega
  have H3 := Lib.hid h3
  have H4 := Lib.hid h4
  have HA := Lib.hid hA
  have hlt := H3.out.lt
  clear h3 h4 hA
  go_enter Tryz.func87, Tryz.ntmps87
  go_wp2_with fail
  refine (memIs_any m s _ (by assumption)).mono ?_
  rintro e w' ⟨rfl, rfl⟩
  go_wp2_with fail
  have hms : m ≠ s := fun e => absurd (H3.out.eq_ (e ▸ H4.out)).1 (by decide)
  refine (wipe_any none ⟨[], 0⟩ (fun _ => False) s 1024 1024 28 cs _ H4.out (by omega) (by omega) (LedAt.none_ _ _ _) (fun h => h) (by simp)).mono ?_
  rintro e w1 ⟨rfl, hb, hc, _⟩
  have hcm : ∀ k, k = m → ¬ (k = s ∨ False) := fun k e h => hms (e ▸ h.elim id False.elim)
  have K3 := H3.out.chg hc (hcm m rfl)
  have K4 := Lib.hid hb
  have KC := Lib.hid hc
  have KA := Lib.hid (HA.out.chg hc fun a ha h => hS a ha (h.elim (fun e => e ▸ h2) False.elim))
  have e0 : w1.cell? ⟨m, 0, none⟩ = some (.pointer (some ⟨s, 0, none⟩)) := K3.cell 0
  have e1 : w1.cell? ⟨m, 1, none⟩ = some (.int .i64 q) := K3.cell 1
  have g1 := K3.frozen 1
  have K3' := Lib.hid K3
  clear hb hc K3 c0 c1 f1 hS
  have hinfo : (Tryz.prog.info? 5).map (·.size) = some 1 := by kernel_rfl
  have hmin : Hid (xs.length = Nat.min n 1024) := Lib.hid (by rw [hn]; exact (Nat.min_eq_left hn2).symm)
  have hfit : Hid (0 + xs.length ≤ (noughts 1024 cs).length) := Lib.hid (by rw [length_noughts _ _ (by omega)]; omega)
  go_wp2_with (refine wpList_copy_blk (by rfl) (.tmp 24) (.tmp 25) _ _ (by rfl) 5 Tryz.underlying35 hinfo (some ⟨s, 0, none⟩) A 1024 1024 n c (by rfl) (by rfl) s 0 (noughts 1024 cs) 28 K4.out xs hmin.out (fun h0 => ⟨rfl, KA.out.copy h0⟩) hfit.out hx ?_; intro w2 hb2 hg2; have L0 := (hg2.cell_far ⟨m, 0, none⟩ (K3'.out.lt) (by simpa using hms)).trans e0; have L1 := (hg2.cell_far ⟨m, 1, none⟩ (K3'.out.lt) (by simpa using hms)).trans e1; have L2 := (hg2.frozen_far ⟨m, 1, none⟩ (K3'.out.lt) (by simpa using hms)).trans g1; have HB2 := Lib.hid hb2; have HG2 := Lib.hid hg2; clear hb2 hg2)
  go_ret
  have hsp : splice (noughts 1024 cs) 0 xs = xs ++ List.replicate (1024 - n) (.int .u8 0) := by
    simp only [splice, noughts, List.take_zero, List.nil_append, Nat.zero_add]
    rw [List.drop_of_length_le (by omega : cs.length ≤ 1024), List.append_nil, List.drop_replicate, hn]
  have hb2 := HB2.out
  rw [hsp] at hb2
  have C2 : Chg S w w2 := Chg.grown (KC.out.mono fun k _ h => h.elim (fun e => e ▸ h2) False.elim) HG2.out (fun k hk => .inl (by simp at hk; exact hk ▸ h2))
  refine ⟨rfl, C2.setCell (p := ⟨m, 1, none⟩) (.inl h1) _, s, _, h1, h2, ((K3'.out.grown HG2.out (by simpa using hms)).set_ 1 _), hb2.far (p := ⟨m, 1, none⟩) (Ne.symm hms) _, ?_⟩
  simp only [List.length_append, List.length_replicate]; omega
end Go.Proofs.YtpifjikpojikgaaGreatR
