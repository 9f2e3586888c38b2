/- The ledger: New, NoteTimes, Note, Len, Mark. -/
import Derived.Test.YtpifjikpojikgaaGreatRProg
import Derived.Test.YtpifjikpojikgaaGreatRBase
import Derived.ProofKit
import Derived.OneCell
import Derived.Lib.Hide
import Derived.Deep.QuietTactic
import Derived.BigQuiet
import Derived.Deep.RegionHeld3
import Derived.Deep.RegionLaw
import Derived.Deep.AppendLies
import Derived.Deep.DrawnRows
namespace Go.Proofs.YtpifjikpojikgaaGreatR
open Go.RowKit
attribute [local go_sem ↓] Go.wp_at_zero Go.wp_at_succ

/-- A run: kind, size, count. -/
structure Rn where
  kind : Int
  size : Int
  count : Int
def Rn.cells (r : Rn) : List Value := [.int .u8 r.kind, .int .i64 r.size, .int .i64 r.count]
/-- What a ledger holds. -/
structure Led where
  runs : List Rn
  n : Int
/-- An event, so many times, put behind runs. -/
def noteRuns : List Rn → Int → Int → Int → List Rn
  | [], k, s, c => [⟨k, s, c⟩]
  | [r], k, s, c => if r.kind = k ∧ r.size = s then [⟨k, s, wrap64 (r.count + c)⟩] else [r, ⟨k, s, c⟩]
  | r :: r' :: l, k, s, c => r :: noteRuns (r' :: l) k s c
def Led.note (L : Led) (k s c : Int) : Led := ⟨noteRuns L.runs k s c, wrap64 (L.n + c)⟩
def rnCells (l : List Rn) : List Value := l.flatMap Rn.cells

/-- The ledger pointer p: nil, or a ledger in S that holds L. -/
def LedAt (w : World) (S : Nat → Prop) (p : Option Addr) (L : Led) : Prop :=
  ∀ a, p = some a → ∃ b rv, a = ⟨b, 0, none⟩ ∧ S b ∧ Blk w b 99 #[rv, .int .i64 L.n] ∧ Row w S 56 3 rv L.runs.length (rnCells L.runs) ∧ (L.runs = [] → rv = .slice none 0 0)

theorem LedAt.none_ (w : World) (S : Nat → Prop) (L : Led) : LedAt w S none L := fun _ h => by cases h
theorem LedAt.chg {w w' : World} {S T : Nat → Prop} {p : Option Addr} {L : Led} (h : LedAt w S p L) (hc : Chg T w w') (hd : ∀ k, S k → ¬ T k) : LedAt w' S p L := fun a ha => by
  obtain ⟨b, rv, e, hS, hb, hr, hn⟩ := h a ha
  exact ⟨b, rv, e, hS, hb.chg hc (hd _ hS), hr.chg hc hd, hn⟩
theorem LedAt.retag {w : World} {S T : Nat → Prop} {p : Option Addr} {L : Led} (h : LedAt w S p L) (hS : ∀ k, k < w.heap.size → S k → T k) : LedAt w T p L := fun a ha => by
  obtain ⟨b, rv, e, h1, hb, hr, hn⟩ := h a ha
  exact ⟨b, rv, e, hS b hb.lt h1, hb, hr.retag hS, hn⟩

theorem rn_info : (Tryz.prog.info? 56).map (fun i => (i.zero, i.size, i.bytes)) = some (some (.agg #[.int .u8 0, .int .i64 0, .int .i64 0]), 3, 24) := by kernel_rfl

theorem ledgerNew_any (w : World) : Calls Tryz.prog 20 #[] w fun e w' =>
    e = .returned (.pointer (some ⟨w.heap.size, 0, none⟩)) ∧ w' = w.alloc (.cells #[.slice none 0 0, .int .i64 0] 99) := by
  go_enter Tryz.func20, Tryz.ntmps20
  go_wp2
  go_ret
  exact ⟨rfl, rfl⟩

theorem noteTimes_nil (k s n : Int) (w : World) : Calls Tryz.prog 62 #[.pointer none, .agg #[.int .u8 k, .int .i64 s], .int .i64 n] w fun e w' =>
    e = .returned (.tuple #[]) ∧ Below w.heap.size w w' := by
  go_enter Tryz.func62, Tryz.ntmps62
  go_wp2
  refine bodyPost_ret (results_none rfl _ _ _) rfl ⟨rfl, ?_⟩
  exact (Below.refl _ _).alloc (Nat.le_refl _) _

/-- What a new event leaves: the ledger's own block holds the grown row and the new number. -/
theorem note_grown {w W w1 : World} {S : Nat → Prop} {b g cap ln H : Nat} {rv : Value} {xs news : List Value} {N : Int} {o : Obj} (hb : Blk W b 99 #[rv, .int .i64 N]) (hS : S b) (hc : Chg S w W) (hr : Row W S 56 3 rv ln xs)
    (hown : w1.ownsRow 0 56 3 (.slice (some ⟨g, 0, none⟩) (ln + 1) cap) (ln + 1) (xs ++ news))
    (hgrow : World.grownBy ((W.alloc o).drew) w1 rv.ownBlock) (hat : rv.ownBlock = some g ∨ g = H) (hH : W.heap.size ≤ H) :
    Chg S w (w1.setCell ⟨b, 0, none⟩ (.slice (some ⟨g, 0, none⟩) (ln + 1) cap)) ∧
    ∃ rv', Blk (w1.setCell ⟨b, 0, none⟩ (.slice (some ⟨g, 0, none⟩) (ln + 1) cap)) b 99 #[rv', .int .i64 N] ∧
    Row (w1.setCell ⟨b, 0, none⟩ (.slice (some ⟨g, 0, none⟩) (ln + 1) cap)) (fun k => S k ∨ w.heap.size ≤ k) 56 3 rv' (ln + 1) (xs ++ news) := by
  have hne : rv.ownBlock ≠ some b := by
    rcases hr.open_ with ⟨rfl, _⟩ | ⟨g', cap', cur, rfl, _, hb', _⟩
    · simp [Value.ownBlock]
    · intro e
      have : g' = b := by simpa [Value.ownBlock] using e
      subst this
      exact absurd (hb.eq_ hb').1 (by decide)
  have hb1 : Blk w1 b 99 #[rv, .int .i64 N] := ((hb.alloc o).drew).grown hgrow (Ne.symm hne)
  have hgb : g ≠ b := by
    rintro rfl
    rcases hat with h | h
    · exact hne h
    · exact absurd hb.lt (by omega)
  refine ⟨?_, _, hb1.set_ 0 _, ?_⟩
  · refine Chg.setCell ?_ (.inl hS) _
    exact Chg.grown ((hc.alloc o).drew) hgrow fun k hk => .inl (hr.2 k hk)
  · refine Row.far ⟨hown, ?_⟩ (by simpa [Value.ownBlock] using hgb) _
    intro k hk
    simp [Value.ownBlock] at hk
    subst hk
    rcases hat with h | h
    · exact .inl (hr.2 g h)
    · exact .inr (Nat.le_trans hc.size (h ▸ hH))

set_option maxRecDepth 100000 in
set_option maxHeartbeats 1600000 in
theorem noteTimes_empty (k s n N : Int) (b : Nat) (S : Nat → Prop) (w : World) (hS : S b) (hb : Blk w b 99 #[.slice none 0 0, .int .i64 N]) (hn : 1 ≤ n) :
    Calls Tryz.prog 62 #[.pointer (some ⟨b, 0, none⟩), .agg #[.int .u8 k, .int .i64 s], .int .i64 n] w fun e w' =>
    e = .returned (.tuple #[]) ∧ Chg S w w' ∧ ∃ rv, Blk w' b 99 #[rv, .int .i64 (wrap64 (N + n))] ∧ Row w' (fun k => S k ∨ w.heap.size ≤ k) 56 3 rv 1 [.int .u8 k, .int .i64 s, .int .i64 n] := by
  have hlt := hb.lt
  have c0 : w.cell? ⟨b, 0, none⟩ = some (.slice none 0 0) := hb.cell 0
  have c1 : w.cell? ⟨b, 1, none⟩ = some (.int .i64 N) := hb.cell 1
  have f0 := hb.frozen 0
  have f1 := hb.frozen 1
  have hn1 : ¬ n < 1 := by omega
  obtain ⟨i0, hi0, hz0, hz1, hz2⟩ := info_parts rn_info
  have HB := Lib.hid hb
  clear hb
  go_enter Tryz.func62, Tryz.ntmps62
  go_wp2_with fail
  go_quiet (fail)
  go_wp2_with fail
  generalize hW : World.drewN (World.alloc _ _) nq = W
  have HB1 : Blk W b 99 #[.slice none 0 0, .int .i64 (wrap64 (N + n))] := by rw [← hW]; exact ((HB.out.set_ 1 _).alloc _).drewN _
  have HB2 : Blk W w.heap.size 54 #[.int .u8 k, .int .i64 s] := by rw [← hW]; exact (Blk.newAt _ _ _ _ (by simp [World.setCell])).drewN _
  have d3 : W.heap.size = w.heap.size + 1 := by rw [← hW]; simp [World.setCell]
  have HC : Hid (Chg S w W) := by rw [← hW]; exact (((Chg.refl S w).setCell (p := ⟨b, 1, none⟩) (.inl hS) _).alloc _).drewN _
  clear hW c0 c1 f0 f1
  have d0 := HB1.cell 0
  have d1 := HB2.cell 0
  have d2 := HB2.cell 1
  simp only [List.getElem?_toArray, List.getElem?_cons_zero, List.getElem?_cons_succ] at d0 d1 d2
  go_region_law
    ((refine step_append_lies _ (by rfl) _ _ _ (by rfl) 0 56 i0 _ 3 24 Tryz.underlying58 hi0 hz0 hz1 hz2 rfl (by omega) (.slice none 0 0) 0 [] (by rfl) (World.ownsRow_nil _ 0 _ 3)
        ⟨w.heap.size + 1, 0, none⟩ 1 1 [.int .u8 k, .int .i64 s, .int .i64 n] (by rfl) (by rfl) (World.news_of_block (cs := #[.int .u8 k, .int .i64 s, .int .i64 n]) (t := 56) (fr := (0, 0)) (Blk.newAt W _ _ _ d3.symm).drew) (by simp [Value.oneCell'])
        (by omega) (by simp [maxLen]) (by omega) (Nat.zero_le _) (w.heap.size + 2) (by simp [d3]) ?_; intro gg cap w1 hown1 hgrow hat hlt1; have HB3 := ((HB1.alloc _).drew).grown hgrow (by simp [Value.ownBlock]); have g0 := HB3.cell 0; have g1 := HB3.frozen 0; simp only [List.getElem?_toArray, List.getElem?_cons_zero] at g0))
  all_goals
    go_wp2_with fail
    go_end0
    exact ⟨rfl, note_grown HB1 hS HC.out (Row.nil W S 56 3) hown1 hgrow hat (by omega)⟩

set_option maxRecDepth 100000 in
set_option maxHeartbeats 1600000 in
theorem noteTimes_more (k s n N rk rs rc : Int) (b g m cap : Nat) (S : Nat → Prop) (w : World) (hS : S b) (hb : Blk w b 99 #[.slice (some ⟨g, 0, none⟩) (m + 1) cap, .int .i64 N]) (hn : 1 ≤ n)
    (xs : List Value) (hx : xs.length = m * 3) (hr : Row w S 56 3 (.slice (some ⟨g, 0, none⟩) (m + 1) cap) (m + 1) (xs ++ [.int .u8 rk, .int .i64 rs, .int .i64 rc]))
    (hm : m ≤ 1099511627776) (hne : ¬ rk = k ∨ (rk = k ∧ ¬ rs = s)) :
    Calls Tryz.prog 62 #[.pointer (some ⟨b, 0, none⟩), .agg #[.int .u8 k, .int .i64 s], .int .i64 n] w fun e w' =>
    e = .returned (.tuple #[]) ∧ Chg S w w' ∧ ∃ rv, Blk w' b 99 #[rv, .int .i64 (wrap64 (N + n))] ∧ Row w' (fun k => S k ∨ w.heap.size ≤ k) 56 3 rv (m + 2) (xs ++ [.int .u8 rk, .int .i64 rs, .int .i64 rc] ++ [.int .u8 k, .int .i64 s, .int .i64 n]) := by
  have hlt := hb.lt
  have c0 : w.cell? ⟨b, 0, none⟩ = some (.slice (some ⟨g, 0, none⟩) (m + 1) cap) := hb.cell 0
  have c1 : w.cell? ⟨b, 1, none⟩ = some (.int .i64 N) := hb.cell 1
  have f0 := hb.frozen 0
  have f1 := hb.frozen 1
  have hn1 : ¬ n < 1 := by omega
  have hm0 : (0 : Int) < (m : Int) + 1 := by omega
  obtain ⟨i0, hi0, hz0, hz1, hz2⟩ := info_parts rn_info
  have HB := Lib.hid hb
  have HR := Lib.hid hr
  clear hb hr
  go_enter Tryz.func62, Tryz.ntmps62
  go_wp2_with fail
  generalize hW : World.alloc (World.setCell _ _ _) _ = W
  have hgb : g ≠ b := by
    rintro rfl
    obtain ⟨g', cap', cur, e, _, hb', _⟩ := (HR.out.open_).resolve_left (by simp)
    simp at e
    obtain ⟨rfl, _⟩ := e
    exact absurd (HB.out.eq_ hb').1 (by decide)
  have HB1 : Blk W b 99 #[.slice (some ⟨g, 0, none⟩) (m + 1) cap, .int .i64 (wrap64 (N + n))] := by rw [← hW]; exact ((HB.out.set_ 1 _).alloc _)
  have HB2 : Blk W w.heap.size 54 #[.int .u8 k, .int .i64 s] := by rw [← hW]; exact (Blk.newAt _ _ _ _ (by simp [World.setCell]))
  have d3 : W.heap.size = w.heap.size + 1 := by rw [← hW]; simp [World.setCell]
  have HC : Hid (Chg S w W) := by rw [← hW]; exact (((Chg.refl S w).setCell (p := ⟨b, 1, none⟩) (.inl hS) _).alloc _)
  have HR1 : Row W S 56 3 (.slice (some ⟨g, 0, none⟩) (m + 1) cap) (m + 1) (xs ++ [.int .u8 rk, .int .i64 rs, .int .i64 rc]) := by
    rw [← hW]; exact (HR.out.far (p := ⟨b, 1, none⟩) (by simpa [Value.ownBlock] using hgb) _).alloc _
  clear hW c0 c1 f0 f1
  have d0 := HB1.cell 0
  have d1 := HB2.cell 0
  have d2 := HB2.cell 1
  simp only [List.getElem?_toArray, List.getElem?_cons_zero, List.getElem?_cons_succ] at d0 d1 d2
  have r0 : W.cell? ⟨g, m * 3, none⟩ = some (.int .u8 rk) := by rw [HR1.1.cellAt (m * 3) (by omega), List.getElem?_append_right (by omega)]; simp [hx]
  have r1 : W.cell? ⟨g, m * 3 + 1, none⟩ = some (.int .i64 rs) := by rw [HR1.1.cellAt (m * 3 + 1) (by omega), List.getElem?_append_right (by omega)]; simp [hx]
  have w0 : IntKind.i64.wrap (m : Int) = (m : Int) := IntWalk.i64_in _ (by omega)
  have w1 : (0 : Int) ≤ (m : Int) := by omega
  have w2 : (m : Int) < (m : Int) + 1 := by omega
  rcases hne with hne | hne
  all_goals
    try (obtain ⟨hk, hne⟩ := hne; obtain rfl : k = rk := hk.symm)
    go_quiet (fail)
    go_wp2_with fail
    generalize hX : World.drewN W nq = X
    have HX1 : Blk X b 99 #[.slice (some ⟨g, 0, none⟩) (m + 1) cap, .int .i64 (wrap64 (N + n))] := by rw [← hX]; exact HB1.drewN _
    have HX2 : Blk X w.heap.size 54 #[.int .u8 k, .int .i64 s] := by rw [← hX]; exact HB2.drewN _
    have x3 : X.heap.size = w.heap.size + 1 := by rw [← hX]; exact d3
    have HXC : Hid (Chg S w X) := by rw [← hX]; exact HC.out.drewN _
    have HXR := HR1.drewN nq
    rw [hX] at HXR
    clear hX r0 r1 d0 d1 d2
    have d0 := HX1.cell 0
    have d1 := HX2.cell 0
    have d2 := HX2.cell 1
    simp only [List.getElem?_toArray, List.getElem?_cons_zero, List.getElem?_cons_succ] at d0 d1 d2
    go_region_law
      ((refine step_append_lies _ (by rfl) _ _ _ (by rfl) 0 56 i0 _ 3 24 Tryz.underlying58 hi0 hz0 hz1 hz2 rfl (by omega) (.slice (some ⟨g, 0, none⟩) (m + 1) cap) (m + 1) _ (by rfl) (HXR.1.alloc _).drew
          ⟨w.heap.size + 1, 0, none⟩ 1 1 [.int .u8 k, .int .i64 s, .int .i64 n] (by rfl) (by rfl) (World.news_of_block (cs := #[.int .u8 k, .int .i64 s, .int .i64 n]) (t := 56) (fr := (0, 0)) (Blk.newAt X _ _ _ x3.symm).drew) (by simp [Value.oneCell'])
          (by omega) (by simp [maxLen]; omega) (by omega) (Nat.zero_le _) (w.heap.size + 2) (by simp [x3]) ?_; intro gg cap1 w1 hown1 hgrow hat hlt1; have HB3 := ((HX1.alloc _).drew).grown hgrow (by simp [Value.ownBlock]; omega); have g0 := HB3.cell 0; have g1 := HB3.frozen 0; simp only [List.getElem?_toArray, List.getElem?_cons_zero] at g0))
    all_goals
      go_wp2_with fail
      go_end0
      exact ⟨rfl, note_grown HX1 hS HXC.out HXR hown1 hgrow hat (by omega)⟩

set_option maxRecDepth 100000 in
set_option maxHeartbeats 1600000 in
theorem noteTimes_same (k s n N rc : Int) (b g m cap : Nat) (S : Nat → Prop) (w : World) (hS : S b) (hb : Blk w b 99 #[.slice (some ⟨g, 0, none⟩) (m + 1) cap, .int .i64 N]) (hn : 1 ≤ n)
    (xs : List Value) (hx : xs.length = m * 3) (hr : Row w S 56 3 (.slice (some ⟨g, 0, none⟩) (m + 1) cap) (m + 1) (xs ++ [.int .u8 k, .int .i64 s, .int .i64 rc]))
    (hm : m ≤ 1099511627776) :
    Calls Tryz.prog 62 #[.pointer (some ⟨b, 0, none⟩), .agg #[.int .u8 k, .int .i64 s], .int .i64 n] w fun e w' =>
    e = .returned (.tuple #[]) ∧ Chg S w w' ∧ ∃ rv, Blk w' b 99 #[rv, .int .i64 (wrap64 (N + n))] ∧ Row w' S 56 3 rv (m + 1) (xs ++ [.int .u8 k, .int .i64 s, .int .i64 (wrap64 (rc + n))]) := by
  have hlt := hb.lt
  have c0 : w.cell? ⟨b, 0, none⟩ = some (.slice (some ⟨g, 0, none⟩) (m + 1) cap) := hb.cell 0
  have c1 : w.cell? ⟨b, 1, none⟩ = some (.int .i64 N) := hb.cell 1
  have f0 := hb.frozen 0
  have f1 := hb.frozen 1
  have hn1 : ¬ n < 1 := by omega
  have hm0 : (0 : Int) < (m : Int) + 1 := by omega
  have HB := Lib.hid hb
  have HR := Lib.hid hr
  clear hb hr
  go_enter Tryz.func62, Tryz.ntmps62
  go_wp2_with fail
  generalize hW : World.alloc (World.setCell _ _ _) _ = W
  have hgb : g ≠ b := by
    rintro rfl
    obtain ⟨g', cap', cur, e, _, hb', _⟩ := (HR.out.open_).resolve_left (by simp)
    simp at e
    obtain ⟨rfl, _⟩ := e
    exact absurd (HB.out.eq_ hb').1 (by decide)
  have HB1 : Blk W b 99 #[.slice (some ⟨g, 0, none⟩) (m + 1) cap, .int .i64 (wrap64 (N + n))] := by rw [← hW]; exact ((HB.out.set_ 1 _).alloc _)
  have HB2 : Blk W w.heap.size 54 #[.int .u8 k, .int .i64 s] := by rw [← hW]; exact (Blk.newAt _ _ _ _ (by simp [World.setCell]))
  have HC : Hid (Chg S w W) := by rw [← hW]; exact (((Chg.refl S w).setCell (p := ⟨b, 1, none⟩) (.inl hS) _).alloc _)
  have HR1 : Row W S 56 3 (.slice (some ⟨g, 0, none⟩) (m + 1) cap) (m + 1) (xs ++ [.int .u8 k, .int .i64 s, .int .i64 rc]) := by
    rw [← hW]; exact (HR.out.far (p := ⟨b, 1, none⟩) (by simpa [Value.ownBlock] using hgb) _).alloc _
  clear hW c0 c1 f0 f1
  have d0 := HB1.cell 0
  have d1 := HB2.cell 0
  have d2 := HB2.cell 1
  simp only [List.getElem?_toArray, List.getElem?_cons_zero, List.getElem?_cons_succ] at d0 d1 d2
  have r0 : W.cell? ⟨g, m * 3, none⟩ = some (.int .u8 k) := by rw [HR1.1.cellAt (m * 3) (by omega), List.getElem?_append_right (by omega)]; simp [hx]
  have r1 : W.cell? ⟨g, m * 3 + 1, none⟩ = some (.int .i64 s) := by rw [HR1.1.cellAt (m * 3 + 1) (by omega), List.getElem?_append_right (by omega)]; simp [hx]
  have r2 : W.cell? ⟨g, m * 3 + 2, none⟩ = some (.int .i64 rc) := by rw [HR1.1.cellAt (m * 3 + 2) (by omega), List.getElem?_append_right (by omega)]; simp [hx]
  have r3 : W.frozen? ⟨g, m * 3 + 2, none⟩ = false := HR1.1.frozenAt _
  have w0 : IntKind.i64.wrap (m : Int) = (m : Int) := IntWalk.i64_in _ (by omega)
  have w1 : (0 : Int) ≤ (m : Int) := by omega
  have w2 : (m : Int) < (m : Int) + 1 := by omega
  go_quiet (fail)
  go_wp2_with fail
  refine bodyPost_ret (results_none rfl _ _ _) rfl ⟨rfl, ?_⟩
  have hs := HR1.1.stored (m * 3 + 2) (.int .i64 (wrap64 (rc + n)))
  have e : (xs ++ [Value.int .u8 k, .int .i64 s, .int .i64 rc]).set (m * 3 + 2) (.int .i64 (wrap64 (rc + n))) = xs ++ [.int .u8 k, .int .i64 s, .int .i64 (wrap64 (rc + n))] := by
    rw [List.set_append_right _ _ (by omega)]; simp [hx]
  rw [e] at hs
  have hSg : S g := HR1.2 g rfl
  exact ⟨((HC.out.setCell (p := ⟨g, m * 3 + 2, none⟩) (.inl hSg) _).drewN _), _, ((HB1.far (p := ⟨g, m * 3 + 2, none⟩) (Ne.symm hgb) _).drewN _), hs.1, HR1.2⟩

end Go.Proofs.YtpifjikpojikgaaGreatR
