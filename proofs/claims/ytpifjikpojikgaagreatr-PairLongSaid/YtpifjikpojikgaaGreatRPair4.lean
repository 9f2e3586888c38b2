/- pair.Split. -/
import Derived.Test.YtpifjikpojikgaaGreatRPair3
namespace Go.Proofs.YtpifjikpojikgaaGreatR
open Go.RowKit
attribute [local go_sem ↓] Go.wp_at_zero Go.wp_at_succ
attribute [local go_sem] Oper.semAt_some

/-- Where the two scripts part: d; what is told: r. -/
def Splits (sa sb : Script) (d : Nat) (r : Int) : Prop :=
  d ≤ sa.n ∧ (∀ i, i < d → i < sb.n ∧ sa.code i = sb.code i ∧ sa.seg i = sb.seg i) ∧
    ((d < sa.n ∧ (d = sb.n ∨ (d < sb.n ∧ sa.code d ≠ sb.code d)) ∧ r = d) ∨ (d = sa.n ∧ d < sb.n ∧ r = d) ∨ (d = sa.n ∧ d = sb.n ∧ r = -1))

theorem split_results (tmps : Array Value) (b b' : Nat) (x y : Int) (w : World) (h4 : tmps[4]?.getD undef = .pointer (some ⟨b, 0, none⟩)) (h5 : tmps[5]?.getD undef = .pointer (some ⟨b', 0, none⟩))
    (c4 : w.cell? ⟨b, 0, none⟩ = some (.int .i64 x)) (c5 : w.cell? ⟨b', 0, none⟩ = some (.int .i64 y)) :
    (results Tryz.f27 tmps).run Tryz.prog w = .ok (.tuple #[.int .i64 x, .int .i64 y]) w := by
  have hr : Tryz.f27.results = #[.cell 4 3, .cell 5 38] := rfl
  simp only [results, hr]
  simp [Sem.run_bind, Result.andThen, h4, h5, go_sem, c4, c5]

set_option maxRecDepth 100000 in
theorem split_long (A B : Option Addr) (n c m d : Nat) (w : World) (h : 4096 < n ∨ 4096 < m) (hn : n ≤ 1099511627776) (hm : m ≤ 1099511627776) :
    Calls Tryz.prog 27 #[.slice A n c, .slice B m d] w fun e w' => e = .returned (.tuple #[.int .i64 0, .int .i64 9]) ∧ Below w.heap.size w w' := by
  by_cases h1 : 4096 < n
  · have i1 : (4096 : Int) < n := by omega
    go_enter Tryz.func27, Tryz.ntmps27
    go_wp2_with fail
    refine bodyPost_ret (split_results _ w.heap.size (w.heap.size + 1) 0 9 _ rfl rfl (((Blk.new w _ _).alloc _).cell 0) ((Blk.newAt _ _ _ _ (by simp)).cell 0)) rfl ⟨rfl, ((Below.refl _ w).alloc (Nat.le_refl _) _).alloc (by simp) _⟩
  · have i1 : ¬ (4096 : Int) < n := by omega
    have i2 : (4096 : Int) < m := by omega
    go_enter Tryz.func27, Tryz.ntmps27
    go_wp2_with fail
    refine bodyPost_ret (split_results _ w.heap.size (w.heap.size + 1) 0 9 _ rfl rfl (((Blk.new w _ _).alloc _).cell 0) ((Blk.newAt _ _ _ _ (by simp)).cell 0)) rfl ⟨rfl, ((Below.refl _ w).alloc (Nat.le_refl _) _).alloc (by simp) _⟩

/-- Split's body between two rounds; b: the variables codes, others, i and the closure's; n0: the heap's size at the beginning. -/
def SplitI (sa sb : Script) (n1 : Nat) (W3 : World) (i : Nat) (U : Blocks) (W : World) : Prop :=
  (∀ k, U k ↔ k < n1 + 3) ∧ Chg (fun k => k = n1 + 2 ∨ n1 + 3 ≤ k) W3 W ∧ Blk W (n1 + 2) 3 #[.int .i64 i] ∧ ∀ j, j < i → j < sb.n ∧ sa.code j = sb.code j ∧ sa.seg j = sb.seg j
def SplitX (sa sb : Script) (n0 n1 : Nat) (W3 : World) (c : Code) (i : Nat) (U : Blocks) (W : World) : Prop :=
  (∀ k, U k ↔ k < n1 + 3) ∧ c = .ret ∧ ∃ d, i = d + 1 ∧ Chg (fun k => k = n0 ∨ k = n0 + 1 ∨ k = n1 + 2 ∨ n1 + 3 ≤ k) W3 W ∧ Blk W n0 3 #[.int .i64 d] ∧ Blk W (n0 + 1) 38 #[.int .i64 0] ∧
    (∀ j, j < d → j < sb.n ∧ sa.code j = sb.code j ∧ sa.seg j = sb.seg j) ∧ (d = sb.n ∨ (d < sb.n ∧ sa.code d ≠ sb.code d))
theorem SplitI.stable (sa sb : Script) (n1 : Nat) (W3 : World) (i : Nat) : Stable (SplitI sa sb n1 W3 i) := by
  rintro U W W' ⟨h1, h2, h3, h4⟩ hc
  exact ⟨h1, h2.trans hc (fun k _ h => .inr (Nat.le_of_not_lt fun hh => h ((h1 k).2 hh))), h3.chg hc (fun h => h ((h1 _).2 (by omega))), h4⟩
theorem SplitX.stable (sa sb : Script) (n0 n1 : Nat) (hn : n0 + 2 ≤ n1) (W3 : World) (c : Code) (i : Nat) : Stable (SplitX sa sb n0 n1 W3 c i) := by
  rintro U W W' ⟨h1, hr, d, e, h2, h3, h4, h5⟩ hc
  exact ⟨h1, hr, d, e, h2.trans hc (fun k _ h => .inr (.inr (.inr (Nat.le_of_not_lt fun hh => h ((h1 k).2 hh))))), h3.chg hc (fun h => h ((h1 _).2 (by omega))), h4.chg hc (fun h => h ((h1 _).2 (by omega))), h5⟩

theorem Row.form {w : World} {S : Blocks} {e : TypeId} {size n : Nat} {v : Value} {xs : List Value} (h : Row w S e size v n xs) : ∃ A c, v = .slice A n c := by
  rcases h.open_ with ⟨rfl, rfl, _⟩ | ⟨g, cap, cur, rfl, _⟩
  · exact ⟨none, 0, rfl⟩
  · exact ⟨_, _, rfl⟩

set_option maxRecDepth 100000 in
set_option maxHeartbeats 3200000 in
theorem split_any (sa sb : Script) (A B : Option Addr) (c d : Nat) (w : World) (ha : sa.Plays (fun k => k < w.heap.size) w) (hb : sb.Plays (fun k => k < w.heap.size) w) (hna : sa.n ≤ 4096) (hnb : sb.n ≤ 4096)
    (hA : Src w A (opsCells sa.ops sa.n)) (hAl : ∀ a, A = some a → a.block < w.heap.size) (hB : Src w B (opsCells sb.ops sb.n)) (hBl : ∀ a, B = some a → a.block < w.heap.size)
    (hseg : ∀ i, i < sa.n → i < sb.n → sa.code i = sb.code i → sa.seg i = sb.seg i) (hlen : ∀ i, i < sa.n → (sa.seg i).length ≤ 1099511627776) :
    Calls Tryz.prog 27 #[.slice A sa.n c, .slice B sb.n d] w fun e w' => ∃ dd r, e = .returned (.tuple #[.int .i64 r, .int .i64 0]) ∧ Splits sa sb dd r ∧ Below w.heap.size w w' := by
  have HPA := Lib.hid ha
  have HPB := Lib.hid hb
  have HA := Lib.hid hA
  have HB := Lib.hid hB
  have HAL := Lib.hid hAl
  have HBL := Lib.hid hBl
  have HSEG := Lib.hid hseg
  have HLEN := Lib.hid hlen
  clear ha hb hA hB hAl hBl hseg hlen
  have i1 : ¬ (4096 : Int) < sa.n := by omega
  have i2 : ¬ (4096 : Int) < sb.n := by omega
  refine (callsIn_wide (n := 5)).1 (callsIn_of_wp_marks Tryz.func27 rfl trivial ?_)
  simp only [Tryz.ntmps27, List.size_toArray, List.length_cons, List.length_nil, Nat.reduceAdd, Nat.reduceSub, Array.replicate_succ, Array.replicate_zero, List.push_toArray, List.append_toArray, List.nil_append, List.cons_append]
  have hfn : ∀ f, Fence.wide.fn f := fun _ => trivial
  have hSB : ∀ W, Below w.heap.size w W → _ := fun W hW => seenAll sb B d W (HPB.out.mono (fun k h => Nat.lt_of_lt_of_le h hW.size) (.of_below hW)) (by omega) (HB.out.chg (Chg.of_below (S := fun _ => False) hW) (fun _ _ h => h)) (fun a h => Nat.lt_of_lt_of_le (HBL.out a h) hW.size)
  have HSB := Lib.hid hSB
  clear hSB
  gi_wp2_with (first
    | (gi_at_call 51; refine (callsIn_wide.2 (HSB.out _ (((Below.refl _ w).alloc (Nat.le_refl _) _).alloc (by simp) _))).mono ?_; rintro e w2 ⟨cv, rv, rs, rfl, hg, hb2⟩; have HG := Lib.hid hg; have HB2 := Lib.hid hb2; obtain ⟨A1, c1, rfl⟩ := hg.1.form; obtain ⟨A2, c2, rfl⟩ := hg.2.1.form; clear hg hb2)
    | (gi_at_call 52; refine (callsIn_wide.2 (seen_any _ _ _ _)).mono ?_; rintro e w' ⟨rfl, rfl⟩)
    | (with_reducible refine And.intro (hfn _) ?_))
  have hn2 : w.heap.size + 2 ≤ w2.heap.size := by simpa using HB2.out.size
  generalize hw3 : World.alloc (World.alloc (World.alloc (World.alloc w2 _) _) _) _ = w3
  have hC3 : Chg (fun _ => False) w2 w3 := by rw [← hw3]; exact ((((Chg.refl _ w2).alloc _).alloc _).alloc _).alloc _
  have hs3 : w3.heap.size = w2.heap.size + 4 := by rw [← hw3]; simp
  have hBC : Blk w3 w2.heap.size 103 #[.slice A1 sb.n c1] := by rw [← hw3]; exact (((Blk.new w2 _ _).alloc _).alloc _).alloc _
  have hBO : Blk w3 (w2.heap.size + 1) 104 #[.slice A2 sb.n c2] := by rw [← hw3]; exact ((Blk.newAt _ _ _ _ (by simp)).alloc _).alloc _
  have hBI : Blk w3 (w2.heap.size + 2) 3 #[.int .i64 0] := by rw [← hw3]; exact (Blk.newAt _ _ _ _ (by simp)).alloc _
  have hBL : Blk w3 (w2.heap.size + 3) 22 #[.slice A sa.n c] := by rw [← hw3]; exact Blk.newAt _ _ _ _ (by simp)
  have hBl2 : Below w.heap.size w w2 := (((Below.refl _ w).alloc (Nat.le_refl _) _).alloc (by simp) _).trans (HB2.out.mono (by simp; omega))
  have hR4 : Blk w2 w.heap.size 3 #[.int .i64 0] := ((Blk.new w _ _).alloc _).chg (Chg.of_below (S := fun _ => False) HB2.out) (fun h => h)
  have hR5 : Blk w2 (w.heap.size + 1) 38 #[.int .i64 0] := (Blk.newAt _ _ _ _ (by simp)).chg (Chg.of_below (S := fun _ => False) HB2.out) (fun h => h)
  have hCw3 : Chg (fun _ => False) w w3 := (Chg.of_below (S := fun _ => False) hBl2).trans hC3 (fun _ _ h => h)
  clear hw3
  have hseq := seen1_seq sa (fun k => k < w.heap.size ∨ k = w2.heap.size + 3) w3 (w2.heap.size + 3) A c (HPA.out.mono (fun _ h => .inl h) (hCw3.mono fun _ _ h => h.elim)) (by omega) (hBL.cell 0) (.inr rfl) (fun k h => by omega) (HA.out.chg hCw3 (fun _ _ h => h)) (fun a ha => .inl (HAL.out a ha))
  have HSQ := Lib.hid hseq
  have HBC := Lib.hid hBC
  have HBO := Lib.hid hBO
  have HBI := Lib.hid hBI
  have HR4 := Lib.hid (hR4.chg hC3 (fun h => h))
  have HR5 := Lib.hid (hR5.chg hC3 (fun h => h))
  have HCW := Lib.hid hCw3
  have HG3 : Hid (SeenGot sb sb.n (.slice A1 sb.n c1) (.slice A2 sb.n c2) rs (fun k => k < w2.heap.size) w3) := by
    obtain ⟨g1, g2, g3⟩ := HG.out
    exact Lib.hid ⟨(g1.retag fun k h _ => h).chg hC3 (fun _ _ h => h), (g2.retag fun k h _ => h).chg hC3 (fun _ _ h => h), fun j hj => ((g3 j hj).retag fun k h _ => h).chg hC3 (fun _ _ h => h)⟩
  clear hseq hBC hBO hBI hBL hR4 hR5 hC3 hBl2 hCw3 HG
  refine range_law (gf := 75) (lb := #[.pointer (some ⟨w2.heap.size + 3, 0, none⟩)]) rfl enters_seen1 HSQ.out (Chg.refl _ _) (fun k h => by omega)
    (SplitI sa sb w2.heap.size w3) (SplitX sa sb w.heap.size w2.heap.size w3) (fun i => SplitI.stable sa sb w2.heap.size w3 i) (fun c i => SplitX.stable sa sb w.heap.size w2.heap.size hn2 w3 c i) (fun k => k < w2.heap.size + 3) ?_ (fun k h => by omega)
    (fun i vs X W W' ⟨A1, c1, e, h⟩ hc => ⟨A1, c1, e, h.chg hc (fun k h h' => h' h)⟩) (fun i vs X W ⟨A1, c1, e, h⟩ => by rw [e]; rfl)
    (fun vs => { tmps := #[.slice A sa.n c, .slice B sb.n d, undef, undef, .pointer (some ⟨w.heap.size, 0, none⟩), .pointer (some ⟨w.heap.size + 1, 0, none⟩), .pointer (some ⟨w2.heap.size, 0, none⟩), .pointer (some ⟨w2.heap.size + 1, 0, none⟩), .pointer (some ⟨w2.heap.size + 2, 0, none⟩),
      vs.getD 0 undef, vs.getD 1 undef, .slice A sa.n c, .int .i64 sa.n, .bool false, .bool false, .slice B sb.n d, .int .i64 sb.n, .bool false, .bool false, .tuple #[.slice A1 sb.n c1, .slice A2 sb.n c2], .slice B sb.n d, .tuple #[.slice A1 sb.n c1, .slice A2 sb.n c2], .slice A1 sb.n c1, .slice A2 sb.n c2,
      .slice A sa.n c, .func (.func 75) #[] #[.pointer (some ⟨w2.heap.size + 3, 0, none⟩)], vs.getD 0 undef, vs.getD 1 undef, undef, undef, undef, undef, undef, undef, undef, undef, undef, undef, undef, undef, undef, undef, undef, undef, undef, undef, undef, undef, undef, undef, undef, undef, undef, undef, undef, undef, undef], defers := [] })
    ?assign ?body ?done ?stop
  · exact ⟨fun _ => Iff.rfl, Chg.refl _ _, HBI.out, fun j hj => by omega⟩
  case assign =>
    rintro l m i vs X W K ⟨A1, c1, rfl, h⟩ hK
    gi_wp2
    exact hK
  case body =>
    rintro l m i U X vs W hi hUb ⟨hUk, hCW, hbI, hag⟩ ⟨A3, c3, rfl, rX⟩ hX
    have e0 : (#[Value.int .i64 (sa.code i), .slice A3 (sa.seg i).length c3] : Array Value).getD 0 undef = .int .i64 (sa.code i) := rfl
    have e1 : (#[Value.int .i64 (sa.code i), .slice A3 (sa.seg i).length c3] : Array Value).getD 1 undef = .slice A3 (sa.seg i).length c3 := rfl
    rw [e0, e1]
    clear e0 e1
    have d6 : W.cell? ⟨w2.heap.size, 0, none⟩ = some (.slice A1 sb.n c1) := (HBC.out.chg hCW (fun h => by omega)).cell 0
    have d7 : W.cell? ⟨w2.heap.size + 1, 0, none⟩ = some (.slice A2 sb.n c2) := (HBO.out.chg hCW (fun h => by omega)).cell 0
    have d8 : W.cell? ⟨w2.heap.size + 2, 0, none⟩ = some (.int .i64 i) := hbI.cell 0
    have f8 := hbI.frozen 0
    have HGW : Hid (SeenGot sb sb.n (.slice A1 sb.n c1) (.slice A2 sb.n c2) rs (fun k => k < w2.heap.size) W) := by
      obtain ⟨g1, g2, g3⟩ := HG3.out
      exact Lib.hid ⟨g1.chg hCW (fun k h h' => by omega), g2.chg hCW (fun k h h' => by omega), fun j hj => (g3 j hj).chg hCW (fun k h h' => by omega)⟩
    have r4 := HR4.out.chg hCW (fun h => by omega)
    have r5 := HR5.out.chg hCW (fun h => by omega)
    have d4 := r4.cell 0
    have f4 := r4.frozen 0
    have d5 := r5.cell 0
    have f5 := r5.frozen 0
    have HUK := Lib.hid hUk
    have HCU := Lib.hid hCW
    have HBIW := Lib.hid hbI
    have HAG := Lib.hid hag
    have HRX := Lib.hid rX
    have HRW4 := Lib.hid r4
    have HRW5 := Lib.hid r5
    clear hUk hCW hbI hag rX hX hUb r4 r5
    have q2 : IntKind.i64.wrap ((i : Int) + 1) = (i : Int) + 1 := IntWalk.i64_in _ (by omega)
    have q0 : (0 : Int) ≤ i := by omega
    have hdp : Fence.wide.depth.isSome = true → 1 ≤ m := fun h => by cases h
    by_cases hin : i < sb.n
    · have hii : ¬ (i : Int) = sb.n := by omega
      have q1 : (i : Int) < sb.n := by omega
      obtain ⟨g1, g2, g3⟩ := HGW.out
      have hl1 : ((List.range sb.n).map fun j => Value.int .i64 (sb.code j)) ≠ [] := by intro h; have := congrArg List.length h; simp at this; omega
      have hl2 : ((List.range sb.n).map fun j => Value.slice (rs j).1 (sb.seg j).length (rs j).2) ≠ [] := by intro h; have := congrArg List.length h; simp at this; omega
      obtain ⟨b1, o1, rfl, hb1⟩ := (Src.of_row g1).form hl1
      obtain ⟨b2, o2, rfl, hb2⟩ := (Src.of_row g2).form hl2
      have e1 : W.cell? ⟨b1, o1 + i, none⟩ = some (.int .i64 (sb.code i)) := hb1 i _ (by simp [hin])
      have e2 : W.cell? ⟨b2, o2 + i, none⟩ = some (.slice (rs i).1 (sb.seg i).length (rs i).2) := hb2 i _ (by simp [hin])
      have HRI := Lib.hid (g3 i hin)
      clear g1 g2 g3 hl1 hl2 hb1 hb2
      by_cases hco : sa.code i = sb.code i
      · have hsg := HSEG.out i hi hin hco
        have hln := HLEN.out i hi
        rw [hco]
        rw [hsg] at HRX hln ⊢
        gi_wp2_with (first
          | (gi_at_call 53; refine (CallsIn.inRound l (callsIn_wide.2 (same_eq _ _ _ _ _ W (.of_row HRX.out) (.of_row HRI.out) hln))).mono ?_; rintro e w' ⟨rfl, nq, rfl⟩)
          | (with_reducible refine And.intro hdp ?_) | (with_reducible refine And.intro (hfn _) ?_))
        have hsz : ∀ k, U k → k < W.heap.size := fun k h => by have := (HUK.out k).1 h; have := HCU.out.size; omega
        have hcS : Chg (fun k => k = w2.heap.size + 2) W ((W.drewN nq).setCell ⟨w2.heap.size + 2, 0, none⟩ (.int .i64 (↑i + 1))) := Chg.setCell (S := fun k => k = w2.heap.size + 2) ((Chg.refl _ W).drewN nq) (p := ⟨w2.heap.size + 2, 0, none⟩) (.inl rfl) _
        refine ⟨U, fun k h => ⟨.inl h, Nat.lt_of_lt_of_le (hsz k h) hcS.size⟩, hcS.mono (fun k _ e => ⟨(HUK.out k).2 (by omega), by omega⟩), HUK.out, HCU.out.trans hcS (fun k _ e => .inl e), (HBIW.out.drewN nq).set_ 0 _, fun j hj => ?_⟩
        by_cases hji : j = i
        · subst hji; exact ⟨hin, hco, hsg⟩
        · exact HAG.out j (by omega)
      · have hcb : (sa.code i == sb.code i) = false := by simp [hco]
        gi_wp2_with (first | (with_reducible refine And.intro hdp ?_) | (with_reducible refine And.intro (hfn _) ?_))
        have hsz : ∀ k, U k → k < W.heap.size := fun k h => by have := (HUK.out k).1 h; have := HCU.out.size; omega
        have hcS : Chg (fun k => k = w.heap.size ∨ k = w.heap.size + 1) W ((W.setCell ⟨w.heap.size, 0, none⟩ (.int .i64 ↑i)).setCell ⟨w.heap.size + 1, 0, none⟩ (.int .i64 0)) := Chg.setCell (S := fun k => k = w.heap.size ∨ k = w.heap.size + 1) (Chg.setCell (S := fun k => k = w.heap.size ∨ k = w.heap.size + 1) (Chg.refl _ W) (p := ⟨w.heap.size, 0, none⟩) (.inl (.inl rfl)) _) (p := ⟨w.heap.size + 1, 0, none⟩) (.inl (.inr rfl)) _
        exact ⟨U, fun k h => ⟨.inl h, Nat.lt_of_lt_of_le (hsz k h) hcS.size⟩, hcS.mono (fun k _ e => ⟨(HUK.out k).2 (by omega), by omega⟩), HUK.out, rfl, _, rfl, (HCU.out.mono (fun k _ h => by omega)).trans hcS (fun k _ e => by omega), (HRW4.out.set_ 0 _).far (p := ⟨w.heap.size + 1, 0, none⟩) (by simp) _, (HRW5.out.far (p := ⟨w.heap.size, 0, none⟩) (by simp) _).set_ 0 _, HAG.out, .inr ⟨hin, hco⟩⟩
    · obtain rfl : i = sb.n := Nat.le_antisymm (Nat.le_of_not_lt fun h => by have := (HAG.out sb.n h).1; omega) (by omega)
      have hib : ((sb.n : Int) == (sb.n : Int)) = true := by simp
      gi_wp2_with (first | (with_reducible refine And.intro hdp ?_) | (with_reducible refine And.intro (hfn _) ?_))
      have hsz : ∀ k, U k → k < W.heap.size := fun k h => by have := (HUK.out k).1 h; have := HCU.out.size; omega
      have hcS : Chg (fun k => k = w.heap.size ∨ k = w.heap.size + 1) W ((W.setCell ⟨w.heap.size, 0, none⟩ (.int .i64 ↑sb.n)).setCell ⟨w.heap.size + 1, 0, none⟩ (.int .i64 0)) := Chg.setCell (S := fun k => k = w.heap.size ∨ k = w.heap.size + 1) (Chg.setCell (S := fun k => k = w.heap.size ∨ k = w.heap.size + 1) (Chg.refl _ W) (p := ⟨w.heap.size, 0, none⟩) (.inl (.inl rfl)) _) (p := ⟨w.heap.size + 1, 0, none⟩) (.inl (.inr rfl)) _
      exact ⟨U, fun k h => ⟨.inl h, Nat.lt_of_lt_of_le (hsz k h) hcS.size⟩, hcS.mono (fun k _ e => ⟨(HUK.out k).2 (by omega), by omega⟩), HUK.out, rfl, _, rfl, (HCU.out.mono (fun k _ h => by omega)).trans hcS (fun k _ e => by omega), (HRW4.out.set_ 0 _).far (p := ⟨w.heap.size + 1, 0, none⟩) (by simp) _, (HRW5.out.far (p := ⟨w.heap.size, 0, none⟩) (by simp) _).set_ 0 _, HAG.out, .inl rfl⟩
  case done =>
    rintro D U W hD ⟨hUk, hCW, hbI, hag⟩ hUD hWD
    have d6 : W.cell? ⟨w2.heap.size, 0, none⟩ = some (.slice A1 sb.n c1) := (HBC.out.chg hCW (fun h => by omega)).cell 0
    have d8 : W.cell? ⟨w2.heap.size + 2, 0, none⟩ = some (.int .i64 sa.n) := hbI.cell 0
    have r4 := HR4.out.chg hCW (fun h => by omega)
    have r5 := HR5.out.chg hCW (fun h => by omega)
    have d4 := r4.cell 0
    have f4 := r4.frozen 0
    have d5 := r5.cell 0
    have f5 := r5.frozen 0
    have HRW4 := Lib.hid r4
    have HRW5 := Lib.hid r5
    have HCU := Lib.hid hCW
    have HAG := Lib.hid hag
    have HWD := Lib.hid hWD
    have hDW : D < W.heap.size := (Array.getElem?_eq_some_iff.1 hWD).1
    clear hUk hCW hbI hag r4 r5 hWD
    have fin : ∀ (x : Int) (W' : World), W' = (W.setCell ⟨w.heap.size, 0, none⟩ (.int .i64 x)).setCell ⟨w.heap.size + 1, 0, none⟩ (.int .i64 0) → W'.heap[D]? = some (.deferred (some [])) ∧ Below w.heap.size w (W'.putObj D (.deferred none)) ∧
        (W'.putObj D (.deferred none)).cell? ⟨w.heap.size, 0, none⟩ = some (.int .i64 x) ∧ (W'.putObj D (.deferred none)).cell? ⟨w.heap.size + 1, 0, none⟩ = some (.int .i64 0) := by
      rintro x W' rfl
      have b4 : Blk ((W.setCell ⟨w.heap.size, 0, none⟩ (.int .i64 x)).setCell ⟨w.heap.size + 1, 0, none⟩ (.int .i64 0)) w.heap.size _ _ := (HRW4.out.set_ 0 (.int .i64 x)).far (p := ⟨w.heap.size + 1, 0, none⟩) (by simp) _
      have b5 : Blk ((W.setCell ⟨w.heap.size, 0, none⟩ (.int .i64 x)).setCell ⟨w.heap.size + 1, 0, none⟩ (.int .i64 0)) (w.heap.size + 1) _ _ := (HRW5.out.far (p := ⟨w.heap.size, 0, none⟩) (by simp) (.int .i64 x)).set_ 0 (.int .i64 0)
      have hp := (Chg.refl (fun k => k = D) ((W.setCell ⟨w.heap.size, 0, none⟩ (.int .i64 x)).setCell ⟨w.heap.size + 1, 0, none⟩ (.int .i64 0))).putObj D (.deferred none) (.inl rfl)
      have hcS := Chg.setCell (S := fun k => k = w.heap.size ∨ k = w.heap.size + 1) (Chg.setCell (S := fun k => k = w.heap.size ∨ k = w.heap.size + 1) (Chg.refl _ W) (p := ⟨w.heap.size, 0, none⟩) (.inl (.inl rfl)) (.int .i64 x)) (p := ⟨w.heap.size + 1, 0, none⟩) (.inl (.inr rfl)) (.int .i64 0)
      refine ⟨(hcS.block D hDW (fun h => by omega)).trans HWD.out, ?_, (b4.chg hp (fun h => by omega)).cell 0, (b5.chg hp (fun h => by omega)).cell 0⟩
      exact ((((HCW.out.trans HCU.out (fun k hk h => by omega))).trans hcS (fun k hk h => by omega)).trans hp (fun k hk h => by omega)).to_below
    by_cases hlt : sa.n < sb.n
    · have i3 : (sa.n : Int) < sb.n := by omega
      gi_wp2
      obtain ⟨k1, k2, k3, k4⟩ := fin sa.n _ rfl
      refine ⟨by simp, .inl ⟨_, _, rfl, run_takeDeferred k1, ?_⟩⟩
      exact ⟨_, split_results _ w.heap.size (w.heap.size + 1) sa.n 0 _ rfl rfl k3 k4, sa.n, sa.n, rfl, ⟨Nat.le_refl _, HAG.out, .inr (.inl ⟨rfl, hlt, rfl⟩)⟩, k2⟩
    · have i3 : ¬ (sa.n : Int) < sb.n := by omega
      have heq : sa.n = sb.n := Nat.le_antisymm (Nat.le_of_not_lt fun h => by have := (HAG.out sb.n h).1; omega) (by omega)
      gi_wp2
      obtain ⟨k1, k2, k3, k4⟩ := fin (-1) _ rfl
      refine ⟨by simp, .inl ⟨_, _, rfl, run_takeDeferred k1, ?_⟩⟩
      exact ⟨_, split_results _ w.heap.size (w.heap.size + 1) (-1) 0 _ rfl rfl k3 k4, sa.n, -1, rfl, ⟨Nat.le_refl _, HAG.out, .inr (.inr ⟨rfl, heq, rfl⟩)⟩, k2⟩
  case stop =>
    rintro D c i U W hD hi ⟨hUk, rfl, d, e, h2, h3, h4, h5, h6⟩ hUD hWD
    obtain rfl : i = d := by omega
    have hDW : D < W.heap.size := (Array.getElem?_eq_some_iff.1 hWD).1
    have hp := (Chg.refl (fun k => k = D) W).putObj D (.deferred none) (.inl rfl)
    have k3 := (h3.chg hp (fun h => by omega)).cell 0
    have k4 := (h4.chg hp (fun h => by omega)).cell 0
    have k2 := ((HCW.out.trans h2 (fun k hk h => by omega)).trans hp (fun k hk h => by omega)).to_below
    gi_wp2
    refine ⟨by simp, .inl ⟨_, _, rfl, run_takeDeferred hWD, ?_⟩⟩
    exact ⟨_, split_results _ w.heap.size (w.heap.size + 1) i 0 _ rfl rfl k3 k4, i, i, rfl, ⟨by omega, h5, .inl ⟨hi, h6, rfl⟩⟩, k2⟩
end Go.Proofs.YtpifjikpojikgaaGreatR
