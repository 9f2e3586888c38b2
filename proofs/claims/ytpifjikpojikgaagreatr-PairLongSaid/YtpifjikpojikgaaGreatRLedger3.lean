/- The ledger: Since, Runs, and two lists of runs held against each other. -/
import Derived.Test.YtpifjikpojikgaaGreatRLedger2
import Derived.Test.YtpifjikpojikgaaGreatRLaws
import Derived.Deep.QuietTactic
import Derived.BigQuiet
import Derived.Deep.RegionLaw
import Derived.Deep.LoopGhost
namespace Go.Proofs.YtpifjikpojikgaaGreatR
open Go.RowKit
attribute [local go_sem ↓] Go.wp_at_zero Go.wp_at_succ

/-- Where Since stops: from the runs' end backwards. -/
def back (runs : List Rn) (mark : Int) : Nat → Int → Nat × Int
  | 0, at_ => (0, at_)
  | k + 1, at_ => if mark < at_ then back runs mark k (wrap64 (at_ - (runs.getD k ⟨0, 0, 0⟩).count)) else (k + 1, at_)

theorem rnCells_get (l : List Rn) (j : Nat) (hj : j < l.length) : (rnCells l)[j * 3]? = some (.int .u8 (l.getD j ⟨0, 0, 0⟩).kind) ∧ (rnCells l)[j * 3 + 1]? = some (.int .i64 (l.getD j ⟨0, 0, 0⟩).size) ∧ (rnCells l)[j * 3 + 2]? = some (.int .i64 (l.getD j ⟨0, 0, 0⟩).count) := by
  induction l generalizing j with
  | nil => simp at hj
  | cons r l ih =>
    cases j with
    | zero => simp [rnCells, Rn.cells]
    | succ j =>
      have := ih j (by simpa using hj)
      have e0 : (j + 1) * 3 = j * 3 + 3 := by omega
      simp only [e0]
      simpa [rnCells, Rn.cells] using this
theorem rnCells_one (l : List Rn) : ∀ u ∈ rnCells l, u.oneCell' = true := by
  intro u hu
  simp only [rnCells, List.mem_flatMap, Rn.cells, List.mem_cons, List.not_mem_nil, or_false] at hu
  obtain ⟨r, _, rfl | rfl | rfl⟩ := hu <;> rfl
theorem rnCells_drop (l : List Rn) (k : Nat) : (rnCells l).drop (k * 3) = rnCells (l.drop k) := by
  induction l generalizing k with
  | nil => simp [rnCells]
  | cons r l ih =>
    cases k with
    | zero => simp
    | succ k =>
      have e : (k + 1) * 3 = k * 3 + 3 := by omega
      rw [e, List.drop_succ_cons, ← ih k]
      simp [rnCells, Rn.cells]

/-- Since, where the mark lies between two runs: the runs from there on, in new memory. -/
def SinceEnd (w : World) (l : List Rn) (e : Ending) (w' : World) : Prop :=
  ∃ A cap, e = .returned (.slice A l.length cap) ∧ Row w' (fun k => w.heap.size ≤ k) 56 3 (.slice A l.length cap) l.length (rnCells l) ∧ Below w.heap.size w w'

set_option maxRecDepth 100000 in
set_option maxHeartbeats 1600000 in
theorem since_some (b g len cap K : Nat) (N mark : Int) (runs : List Rn) (S : Nat → Prop) (w : World) (hb : Blk w b 99 #[.slice (some ⟨g, 0, none⟩) len cap, .int .i64 N])
    (hr : Row w S 56 3 (.slice (some ⟨g, 0, none⟩) len cap) len (rnCells runs)) (hm : mark < N) (hl : len = runs.length) (hl2 : len ≤ 1099511627776)
    (hback : back runs mark len N = (K, mark)) (hKl : K < len) :
    Calls Tryz.prog 32 #[.pointer (some ⟨b, 0, none⟩), .int .i64 mark] w (SinceEnd w (runs.drop K)) := by
  have c0 : w.cell? ⟨b, 0, none⟩ = some (.slice (some ⟨g, 0, none⟩) len cap) := hb.cell 0
  have c1 : w.cell? ⟨b, 1, none⟩ = some (.int .i64 N) := hb.cell 1
  have hlt := hb.lt
  have hm' : ¬ N ≤ mark := by omega
  have hcap : (len : Int) ≤ (cap : Int) := by
    obtain ⟨g', cap', cur, e, _, _, h1, _⟩ := (hr.open_).resolve_left (by simp)
    simp at e
    omega
  have HL := Lib.hid hl
  have HR := Lib.hid hr
  have HB := Lib.hid hb
  have HK := Lib.hid hback
  obtain ⟨i0, hi0, hz0, hz1, hz2⟩ := info_parts rn_info
  clear hl hr hb hback
  go_enter Tryz.func32, Tryz.ntmps32
  go_wp2_with fail
  go_loop [5, 6] (fun t i => ∃ k : Nat, ∃ a : Int, k ≤ len ∧ i = .int .i64 k ∧ t = .int .i64 a ∧ Hid (back runs mark k a = back runs mark len N)) (fun _ i => (intOf i).toNat)
  case atStart => exact ⟨len, N, Nat.le_refl _, rfl, rfl, Lib.hid rfl⟩
  case round =>
    obtain ⟨k, a, hk, rfl, rfl, hbk⟩ := hrel
    by_cases hgo : 0 < k ∧ mark < a
    · obtain ⟨hk0, hma⟩ := hgo
      obtain ⟨j, rfl⟩ : ∃ j, k = j + 1 := ⟨k - 1, by omega⟩
      have hk0' : (0 : Int) < (j : Int) + 1 := by omega
      have hcs := rnCells_get runs j (by have := HL.out; omega)
      have r2 : w.cell? ⟨g, j * 3 + 2, none⟩ = some (.int .i64 (runs.getD j ⟨0, 0, 0⟩).count) := by rw [HR.out.1.cellAt (j * 3 + 2) (by omega)]; exact hcs.2.2
      clear hcs
      have w0 : IntKind.i64.wrap (j : Int) = (j : Int) := IntWalk.i64_in _ (by omega)
      go_wp2_with fail
      go_round
      case rel =>
        refine ⟨j, _, by omega, rfl, rfl, Lib.hid ?_⟩
        rw [← hbk.out, back, if_pos hma]
        rfl
      case measure => simp [intOf]
    · have hka : k = K ∧ a = mark := by
        have h := hbk.out
        rw [HK.out] at h
        cases k with
        | zero => simp [back] at h; exact ⟨h.1, h.2⟩
        | succ k => rw [back, if_neg (fun hx => hgo ⟨by omega, hx⟩)] at h; simp at h; exact ⟨h.1, h.2⟩
      obtain ⟨rfl, rfl⟩ := hka
      clear hgo hbk HK
      have hkc : k < cap := by omega
      have hkc' : ¬ cap = k := by omega
      have hk1 : (k : Int) ≤ (len : Int) := by omega
      have hk2 : (0 : Int) ≤ (k : Int) := by omega
      have hnew : Hid (∀ o : Obj, Row (w.alloc (.cells #[] 56)) (fun k => w.heap.size ≤ k) 56 3 (.slice (some ⟨w.heap.size, 0, none⟩) 0 0) 0 []) :=
        Lib.hid fun _ => Row.mk_ (Nat.le_refl _) (Blk.new w _ _) (Nat.le_refl _) (by simp [maxLen]) (by simp) (by simp)
      have hsrc : Hid (∀ o, Src (w.alloc o) (some ⟨g, k * 3, none⟩) (rnCells (runs.drop k))) := Lib.hid fun o => by
        rw [← rnCells_drop]; exact Src.row (HR.out.alloc o)
      have hln : Hid ((rnCells (runs.drop k)).length = (len - k) * 3) := Lib.hid (by rw [length_rnCells, List.length_drop, ← HL.out])
      rcases Nat.eq_zero_or_pos k with rfl | hk0
      · have hsrc0 : Hid (∀ o, Src (w.alloc o) (some ⟨g, 0, none⟩) (rnCells (runs.drop 0))) := Lib.hid fun o => by simpa using hsrc.out o
        have hln0 : Hid ((rnCells (runs.drop 0)).length = len * 3) := Lib.hid (by simpa using hln.out)
        clear hsrc hln
        go_wp2_with (at_builtin; refine wpList_append_row _ (by rfl) (.tmp 46) (.tmp 52) _ (by rfl) 56 i0 _ 3 24 Tryz.underlying58 hi0 hz0 hz1 hz2 rfl (by omega) (.slice (some ⟨w.heap.size, 0, none⟩) 0 0) 0 [] (by rfl) (hnew.out (.map #[] 0)) (some ⟨g, 0, none⟩) len cap (rnCells (runs.drop 0)) (by rfl) hln0.out (hsrc0.out _) (rnCells_one _) (by simp [maxLen]; omega) (by omega) ?_; intro A' cap' w1 hown hgrow _)
        go_ret
        simp only [List.drop_zero, Nat.zero_add, List.nil_append] at hown
        have e : runs.length = len := HL.out.symm
        unfold SinceEnd
        rw [e]
        exact ⟨A', cap', by simp, hown.retag fun k _ h => h.elim id (fun h => by simp at h; omega), ((Below.refl _ _).alloc (Nat.le_refl _) _).grown hgrow (by simp) (fun k h => by simp [Value.ownBlock] at h; omega)⟩
      · go_wp2_with (at_builtin; refine wpList_append_row _ (by rfl) (.tmp 46) (.tmp 52) _ (by rfl) 56 i0 _ 3 24 Tryz.underlying58 hi0 hz0 hz1 hz2 rfl (by omega) (.slice (some ⟨w.heap.size, 0, none⟩) 0 0) 0 [] (by rfl) (hnew.out (.map #[] 0)) (some ⟨g, k * 3, none⟩) (len - k) (cap - k) (rnCells (runs.drop k)) (by rfl) hln.out (hsrc.out _) (rnCells_one _) (by simp [maxLen]; omega) (by omega) ?_; intro A' cap' w1 hown hgrow _)
        go_ret
        have e : (runs.drop k).length = 0 + (len - k) := by rw [List.length_drop, ← HL.out]; omega
        unfold SinceEnd
        rw [e]
        exact ⟨A', cap', by simp, hown.retag fun k _ h => h.elim id (fun h => by simp at h; omega), ((Below.refl _ _).alloc (Nat.le_refl _) _).grown hgrow (by simp) (fun k h => by simp [Value.ownBlock] at h; omega)⟩
end Go.Proofs.YtpifjikpojikgaaGreatR
