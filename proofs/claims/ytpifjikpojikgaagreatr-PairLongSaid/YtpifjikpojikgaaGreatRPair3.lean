/- pair.seen, pair.Seen. -/
import Derived.Test.YtpifjikpojikgaaGreatRPair2
import Derived.Test.YtpifjikpojikgaaGreatRLaws
namespace Go.Proofs.YtpifjikpojikgaaGreatR
open Go.RowKit
attribute [local go_sem ↓] Go.wp_at_zero Go.wp_at_succ
attribute [local go_sem] Oper.semAt_some

theorem wpListIn_append_row {F : Fence} {n0 : Nat} {P : Program} {S : Blocks} {w : World} {ops : Array Oper} {rest : List Oper} {o : Oper} {a : Act} {Q : Exit → Act → World → Prop} (hgd : o.guard = none) (s x : Operand) (t : TypeId)
    (ho : o.op = .call { callee := .builtin .append, args := #[s, x], argTypes := #[t, t] })
    (e : TypeId) (i : TypeInfo) (z : Value) (size bytes : Nat) (ht : P.underlying t = some (.slice e)) (hi : P.info? e = some i) (hz : i.zero = some z)
    (hsize : i.size = size) (hby : i.bytes = bytes) (hzs : z.cells.size = size) (hsz : 0 < size)
    (v : Value) (n : Nat) (xs : List Value) (hs : a.eval s = v) (hr : Row w S e size v n xs) (A : Option Addr) (m c : Nat) (news : List Value) (hx : a.eval x = .slice A m c) (hl : news.length = m * size) (hnews : Src w A news) (h1 : ∀ u ∈ news, u.oneCell' = true)
    (h63 : n + m ≤ maxLen) (hbytes : (n + m) * bytes ≤ 140737488355328)
    (h : ∀ A' cap' w', Row w' (fun k => S k ∨ k = w.heap.size) e size (.slice A' (n + m) cap') (n + m) (xs ++ news) → w.grownBy w' v.ownBlock → (v = .slice none 0 0 → n + m = 0 → Value.slice A' (n + m) cap' = .slice none 0 0) → wpListIn F n0 P ops Q rest (a.put o.dst (.slice A' (n + m) cap')) w') : wpListIn F n0 P ops Q (o :: rest) a w := by
  refine wpListIn_plain hgd fun K hK' => ?_
  obtain ⟨A', cap', w', hrun, h2, h3, h4⟩ := run_append_row (P := P) w t o.type e i z size bytes ht hi hz hsize hby hzs hsz v n xs hr A m c news hl hnews h1 h63 hbytes
  unfold Oper.wpIn
  refine ⟨?_, ?_⟩
  · simp [Oper.about, ho, resolve, Target.leads, Sem.run_pure]
  · rw [Oper.semAt_plain F _ _ (by rw [ho]; intro c hc'; cases hc')]
    simp [execOp, ho, resolve, invoke, builtin, hs, hx, hrun, Result.andThen]
    exact hK' _ _ (h A' cap' w' h2 h3 h4)

section
variable {w w' : World} {S S' : Blocks} {e e' t : TypeId} {size size' n n' : Nat} {v v' : Value} {xs xs' : List Value}
theorem Row.ne_blk {b : Nat} {cs : Array Value} (h : Row w S e size v n xs) (hb : Blk w b t cs) (hne : e ≠ t) : v.ownBlock ≠ some b := by
  rcases h.open_ with ⟨rfl, _⟩ | ⟨g, cap, cur, rfl, _, hg, _⟩
  · simp [Value.ownBlock]
  · intro h'
    simp only [Value.ownBlock, Option.some.injEq] at h'
    exact hg.ne_ hb hne h'
theorem Row.ne_row (h : Row w S e size v n xs) (h' : Row w S' e' size' v' n' xs') (hne : e ≠ e') (g : Nat) (hg : v.ownBlock = some g) : v'.ownBlock ≠ some g := by
  rcases h.open_ with ⟨rfl, _⟩ | ⟨g0, cap, cur, rfl, _, hg0, _⟩
  · simp [Value.ownBlock] at hg
  · simp only [Value.ownBlock, Option.some.injEq] at hg
    subst hg
    exact h'.ne_blk hg0 hne.symm
/-- Another row has grown. -/
theorem Row.other (h : Row w S e size v n xs) (h' : Row w S' e' size' v' n' xs') (hne : e ≠ e') (hg : w.grownBy w' v'.ownBlock) : Row w' S e size v n xs := by
  rcases h.open_ with ⟨rfl, rfl, rfl⟩ | ⟨g, cap, cur, rfl, hS, hb, h1, h2, h3, h4⟩
  · exact Row.nil _ _ _ _
  · exact Row.mk_ hS (hb.grown hg (fun h0 => h'.ne_blk hb hne.symm h0.symm)) h1 h2 h3 h4
theorem Blk.other {b : Nat} {cs : Array Value} (h : Blk w b t cs) (h' : Row w S' e' size' v' n' xs') (hne : t ≠ e') (hg : w.grownBy w' v'.ownBlock) : Blk w' b t cs :=
  h.grown hg (fun h0 => h'.ne_blk h hne.symm h0.symm)
end

theorem seen_any (A : Option Addr) (n c : Nat) (w : World) : Calls Tryz.prog 52 #[.slice A n c] w fun e w' =>
    e = .returned (.func (.func 75) #[] #[.pointer (some ⟨w.heap.size, 0, none⟩)]) ∧ w' = w.alloc (.cells #[.slice A n c] 22) := by
  go_enter Tryz.func52, Tryz.ntmps52
  go_wp2
  go_ret
  exact ⟨rfl, rfl⟩

/-- The lists that Seen hands back, i steps being over. -/
def SeenGot (s : Script) (i : Nat) (cv rv : Value) (rs : Nat → Option Addr × Nat) (U : Blocks) (W : World) : Prop :=
  Row W U 38 1 cv i ((List.range i).map fun j => .int .i64 (s.code j)) ∧ Row W U 58 1 rv i ((List.range i).map fun j => .slice (rs j).1 (s.seg j).length (rs j).2) ∧
    ∀ j, j < i → Row W U 56 3 (.slice (rs j).1 (s.seg j).length (rs j).2) (s.seg j).length (rnCells (s.seg j))
/-- Seen between two rounds; its two variables are b and b + 1. -/
def SeenI (s : Script) (w : World) (b : Nat) (i : Nat) (U : Blocks) (W : World) : Prop :=
  ∃ cv rv rs, SeenGot s i cv rv rs (fun k => U k ∧ w.heap.size ≤ k) W ∧ Below w.heap.size w W ∧ (∀ k, k < w.heap.size → U k) ∧ U b ∧ U (b + 1) ∧ Blk W b 103 #[cv] ∧ Blk W (b + 1) 104 #[rv] ∧ ¬ U (b + 2) ∧ w.heap.size + 3 ≤ W.heap.size

theorem SeenI.stable (s : Script) (w : World) (b i : Nat) : Stable (SeenI s w b i) := by
  rintro U W W' ⟨cv, rv, rs, ⟨h1, h2, h3⟩, h4, h5, h6, h7, h8, h9, h10, h11⟩ hc
  refine ⟨cv, rv, rs, ⟨h1.chg hc (fun k h h' => h' h.1), h2.chg hc (fun k h h' => h' h.1), fun j hj => (h3 j hj).chg hc (fun k h h' => h' h.1)⟩, ⟨hc.os.trans h4.os, hc.tape.trans h4.tape, hc.output.trans h4.output, Nat.le_trans h4.size hc.size, fun k hk => (hc.block k (Nat.lt_of_lt_of_le hk h4.size) (fun h => h (h5 k hk))).trans (h4.block k hk)⟩, h5, h6, h7, h8.chg hc (fun h => h h6), h9.chg hc (fun h => h h7), h10, Nat.le_trans h11 hc.size⟩

theorem Script.Plays.mono {s : Script} {V V' : Blocks} {w w' : World} (h : s.Plays V w) (hV : ∀ k, V k → V' k) (hc : Chg (fun k => ¬ V k) w w') : s.Plays V' w' :=
  ⟨h.start, h.bound, h.seg1, fun i hi L held vals mem W T bv lp hs hw hT hS => h.step i hi L held vals mem W T bv lp hs (hc.trans hw (fun k _ hn hv => hn (hV k hv))) (fun k hk hv => hT k hk (hV k hv)) hS⟩

theorem errno_info : (Tryz.prog.info? 38).map (fun i => (i.zero, i.size, i.bytes)) = some (some (.int .i64 0), 1, 8) := by kernel_rfl
theorem runs_info : (Tryz.prog.info? 58).map (fun i => (i.zero, i.size, i.bytes)) = some (some (.slice none 0 0), 1, 24) := by kernel_rfl
theorem enters_seen1 (args : Array Value) (w : World) : (callFunc 75 args).run Tryz.prog w = .ok (.enter 75 args) w := by kernel_rfl
/-- A round of Seen's: its two lists have grown by one. -/
theorem SeenI.round {s : Script} {w W w1 W2 w2 : World} {i : Nat} {U X : Blocks} {cv rv : Value} {rs : Nat → Option Addr × Nat} {A1 A2 A3 : Option Addr} {c1 c2 c3 : Nat}
    (h : SeenGot s i cv rv rs (fun k => U k ∧ w.heap.size ≤ k) W) (hB : Below w.heap.size w W) (hUl : ∀ k, k < w.heap.size → U k) (hU0 : U w.heap.size) (hU1 : U (w.heap.size + 1))
    (hb0 : Blk W w.heap.size 103 #[cv]) (hb1 : Blk W (w.heap.size + 1) 104 #[rv]) (hUB : ¬ U (w.heap.size + 2)) (hsz : w.heap.size + 3 ≤ W.heap.size)
    (hX : ∀ k, X k → ¬ U k ∧ ¬ (k < w.heap.size ∨ k = w.heap.size + 2)) (hrX : Row W X 56 3 (.slice A1 (s.seg i).length c1) (s.seg i).length (rnCells (s.seg i)))
    (hr1 : Row w1 (fun k => (U k ∧ w.heap.size ≤ k) ∨ k = W.heap.size + 1) 38 1 (.slice A2 (i + 1) c2) (i + 1) ((List.range i).map (fun j => Value.int .i64 (s.code j)) ++ [.int .i64 (s.code i)]))
    (hg1 : (W.alloc (.cells #[.int .i64 (s.code i)] 38)).grownBy w1 cv.ownBlock)
    (hW2 : W2 = (w1.setCell ⟨w.heap.size, 0, none⟩ (.slice A2 (i + 1) c2)).alloc (.cells #[.slice A1 (s.seg i).length c1] 58))
    (hr2 : Row w2 (fun k => (U k ∧ w.heap.size ≤ k) ∨ k = W2.heap.size) 58 1 (.slice A3 (i + 1) c3) (i + 1) ((List.range i).map (fun j => Value.slice (rs j).1 (s.seg j).length (rs j).2) ++ [.slice A1 (s.seg i).length c1]))
    (hg2 : W2.grownBy w2 rv.ownBlock) :
    bPost (fun k => k < w.heap.size ∨ k = w.heap.size + 2) U X W (SeenI s w w.heap.size (i + 1)) (fun _ _ _ => False) .normal { tmps := #[], defers := [] } (w2.setCell ⟨w.heap.size + 1, 0, none⟩ (.slice A3 (i + 1) c3)) := by
  obtain ⟨h1, h2, h3⟩ := h
  have sW : (W.alloc (.cells #[.int .i64 (s.code i)] 38)).heap.size = W.heap.size + 1 := by simp
  have s1 := hg1.size
  rw [sW] at s1
  -- behind the first append
  have f0 : Blk w1 w.heap.size 103 #[cv] := (hb0.alloc _).other (h1.alloc _) (by decide) hg1
  have f1 : Blk w1 (w.heap.size + 1) 104 #[rv] := (hb1.alloc _).other (h1.alloc _) (by decide) hg1
  have f2 := (h2.alloc (.cells #[.int .i64 (s.code i)] 38)).other (h1.alloc _) (by decide) hg1
  have f3 : ∀ j, j < i → Row w1 (fun k => U k ∧ w.heap.size ≤ k) 56 3 (.slice (rs j).1 (s.seg j).length (rs j).2) (s.seg j).length (rnCells (s.seg j)) := fun j hj => ((h3 j hj).alloc _).other (h1.alloc _) (by decide) hg1
  have fX := (hrX.alloc (.cells #[.int .i64 (s.code i)] 38)).other (h1.alloc _) (by decide) hg1
  -- behind the first store, and the new block
  obtain ⟨W1, hW1⟩ : ∃ W1, w1.setCell ⟨w.heap.size, 0, none⟩ (.slice A2 (i + 1) c2) = W1 := ⟨_, rfl⟩
  rw [hW1] at hW2
  have g0 : Blk W1 w.heap.size 103 #[.slice A2 (i + 1) c2] := by rw [← hW1]; exact f0.set_ 0 _
  have g1 : Blk W1 (w.heap.size + 1) 104 #[rv] := by rw [← hW1]; exact f1.far (p := ⟨w.heap.size, 0, none⟩) (by simp) _
  have gr := hr1.far (p := ⟨w.heap.size, 0, none⟩) (hr1.ne_blk f0 (by decide)) (.slice A2 (i + 1) c2)
  have g2 := f2.far (p := ⟨w.heap.size, 0, none⟩) (f2.ne_blk f0 (by decide)) (.slice A2 (i + 1) c2)
  have g3 : ∀ j, j < i → Row W1 (fun k => U k ∧ w.heap.size ≤ k) 56 3 (.slice (rs j).1 (s.seg j).length (rs j).2) (s.seg j).length (rnCells (s.seg j)) := fun j hj => by rw [← hW1]; exact (f3 j hj).far (p := ⟨w.heap.size, 0, none⟩) ((f3 j hj).ne_blk f0 (by decide)) _
  have gX := fX.far (p := ⟨w.heap.size, 0, none⟩) (fX.ne_blk f0 (by decide)) (.slice A2 (i + 1) c2)
  rw [hW1] at g2 gX gr
  have s2 : W1.heap.size = w1.heap.size := by rw [← hW1]; simp [World.setCell]
  subst hW2
  have s3 := hg2.size
  rw [World.size_alloc] at s3
  rw [World.size_alloc] at hr2
  -- behind the second append
  have k0 : Blk (W1.alloc (.cells #[.slice A1 (s.seg i).length c1] 58)) w.heap.size 103 #[.slice A2 (i + 1) c2] := g0.alloc _
  have m0 := k0.other (g2.alloc _) (by decide) hg2
  have m1 := (g1.alloc (.cells #[.slice A1 (s.seg i).length c1] 58)).other (g2.alloc _) (by decide) hg2
  have mr := (gr.alloc (.cells #[.slice A1 (s.seg i).length c1] 58)).other (g2.alloc _) (by decide) hg2
  have m3 : ∀ j, j < i → Row w2 (fun k => U k ∧ w.heap.size ≤ k) 56 3 (.slice (rs j).1 (s.seg j).length (rs j).2) (s.seg j).length (rnCells (s.seg j)) := fun j hj => ((g3 j hj).alloc _).other (g2.alloc _) (by decide) hg2
  have mX := (gX.alloc (.cells #[.slice A1 (s.seg i).length c1] 58)).other (g2.alloc _) (by decide) hg2
  -- all that has changed
  have hc1 : Chg (fun k => U k ∧ w.heap.size ≤ k) W w1 := ((Chg.refl _ W).alloc _).grown hg1 (fun k hk => .inl (h1.2 k hk))
  have hc2 : Chg (fun k => U k ∧ w.heap.size ≤ k) W W1 := by rw [← hW1]; exact hc1.setCell (p := ⟨w.heap.size, 0, none⟩) (.inl ⟨hU0, Nat.le_refl _⟩) _
  have hc3 : Chg (fun k => U k ∧ w.heap.size ≤ k) W w2 := (hc2.alloc _).grown hg2 (fun k hk => .inl (g2.2 k hk))
  have hc4 := hc3.setCell (p := ⟨w.heap.size + 1, 0, none⟩) (.inl ⟨hU1, by simp⟩) (.slice A3 (i + 1) c3)
  have s4 : (w2.setCell ⟨w.heap.size + 1, 0, none⟩ (.slice A3 (i + 1) c3)).heap.size = w2.heap.size := by simp [World.setCell]
  have hXl : ∀ k, X k → w.heap.size ≤ k := fun k h => by have := (hX k h).2; omega
  refine ⟨fun k => (U k ∨ X k ∨ W.heap.size ≤ k) ∧ k < w2.heap.size, fun k hk => ⟨hk.1, by rw [s4]; exact hk.2⟩, hc4.mono fun k _ h => ⟨h.1, fun h' => ?_⟩, .slice A2 (i + 1) c2, .slice A3 (i + 1) c3, fun j => if j = i then (A1, c1) else rs j, ⟨?_, ?_, ?_⟩, ?_, ?_, ⟨.inl hU0, m0.lt⟩, ⟨.inl hU1, m1.lt⟩, ?_, ?_, ?_, ?_⟩
  · rcases h' with h' | h'
    · omega
    · exact hUB (h' ▸ h.1)
  · rw [List.range_succ, List.map_append]
    refine (mr.far (p := ⟨w.heap.size + 1, 0, none⟩) (mr.ne_blk m1 (by decide)) _).retag fun k hk h => ?_
    rw [s4] at hk
    rcases h with h | h
    · exact ⟨⟨.inl h.1, hk⟩, h.2⟩
    · exact ⟨⟨.inr (.inr (by omega)), hk⟩, by omega⟩
  · have e : (List.range (i + 1)).map (fun j => Value.slice (if j = i then (A1, c1) else rs j).1 (s.seg j).length (if j = i then (A1, c1) else rs j).2) = (List.range i).map (fun j => Value.slice (rs j).1 (s.seg j).length (rs j).2) ++ [.slice A1 (s.seg i).length c1] := by
      rw [List.range_succ, List.map_append]
      congr 1
      · refine List.map_congr_left fun j hj => ?_
        have : j ≠ i := by have := List.mem_range.1 hj; omega
        simp [this]
      · simp
    rw [e]
    refine (hr2.far (p := ⟨w.heap.size + 1, 0, none⟩) (hr2.ne_blk m1 (by decide)) _).retag fun k hk h => ?_
    rw [s4] at hk
    rcases h with h | h
    · exact ⟨⟨.inl h.1, hk⟩, h.2⟩
    · exact ⟨⟨.inr (.inr (by omega)), hk⟩, by omega⟩
  · intro j hj
    by_cases e : j = i
    · subst e
      simp only [if_true]
      refine (mX.far (p := ⟨w.heap.size + 1, 0, none⟩) (mX.ne_blk m1 (by decide)) _).retag fun k hk h => ?_
      rw [s4] at hk
      exact ⟨⟨.inr (.inl h), hk⟩, hXl k h⟩
    · simp only [e, if_false]
      refine ((m3 j (by omega)).far (p := ⟨w.heap.size + 1, 0, none⟩) ((m3 j (by omega)).ne_blk m1 (by decide)) _).retag fun k hk h => ?_
      rw [s4] at hk
      exact ⟨⟨.inl h.1, hk⟩, h.2⟩
  · exact ⟨hc4.os.trans hB.os, hc4.tape.trans hB.tape, hc4.output.trans hB.output, Nat.le_trans hB.size hc4.size, fun k hk => (hc4.block k (Nat.lt_of_lt_of_le hk hB.size) (fun h => by omega)).trans (hB.block k hk)⟩
  · exact fun k hk => ⟨.inl (hUl k hk), by omega⟩
  · exact m0.far (p := ⟨w.heap.size + 1, 0, none⟩) (by simp) _
  · exact m1.set_ 0 _
  · rintro ⟨h | h | h, _⟩
    · exact hUB h
    · exact (hX _ h).2 (.inr rfl)
    · omega
  · omega

set_option maxRecDepth 100000 in
set_option maxHeartbeats 1600000 in
theorem seenAll (s : Script) (A : Option Addr) (c : Nat) (w : World) (hp : s.Plays (fun k => k < w.heap.size) w) (hn : s.n ≤ 1099511627776) (hA : Src w A (opsCells s.ops s.n)) (hAl : ∀ a, A = some a → a.block < w.heap.size) :
    Calls Tryz.prog 51 #[.slice A s.n c] w fun e w' => ∃ cv rv rs, e = .returned (.tuple #[cv, rv]) ∧ SeenGot s s.n cv rv rs (fun k => w.heap.size ≤ k) w' ∧ Below w.heap.size w w' := by
  have HP := Lib.hid hp
  have HA := Lib.hid hA
  have HAL := Lib.hid hAl
  clear hp hA hAl
  refine (callsIn_wide (n := 5)).1 (callsIn_of_wp_marks Tryz.func51 rfl trivial ?_)
  simp only [Tryz.ntmps51, List.size_toArray, List.length_cons, List.length_nil, Nat.reduceAdd, Nat.reduceSub, Array.replicate_succ, Array.replicate_zero, List.push_toArray, List.append_toArray, List.nil_append, List.cons_append]
  have hfn : ∀ f, Fence.wide.fn f := fun _ => trivial
  gi_wp2_with (first
    | (gi_at_call 52; refine (callsIn_wide.2 (seen_any _ _ _ _)).mono ?_; rintro e w' ⟨rfl, rfl⟩)
    | (with_reducible refine And.intro (hfn _) ?_))
  generalize hw3 : World.alloc (World.alloc (World.alloc w _) _) _ = w3
  have hC3 : Chg (fun _ => False) w w3 := by rw [← hw3]; exact (((Chg.refl _ w).alloc _).alloc _).alloc _
  have hs3 : w3.heap.size = w.heap.size + 3 := by rw [← hw3]; simp
  have hB0 : Blk w3 w.heap.size 103 #[.slice none 0 0] := by rw [← hw3]; exact ((Blk.new w _ _).alloc _).alloc _
  have hB1 : Blk w3 (w.heap.size + 1) 104 #[.slice none 0 0] := by rw [← hw3]; exact (Blk.newAt _ _ _ _ (by simp)).alloc _
  have hB2 : Blk w3 (w.heap.size + 2) 22 #[.slice A s.n c] := by rw [← hw3]; exact Blk.newAt _ _ _ _ (by simp)
  clear hw3
  obtain ⟨i0, hi0, hz0, hz1, hz2⟩ := info_parts errno_info
  obtain ⟨i1, hi1, hy0, hy1, hy2⟩ := info_parts runs_info
  have hseq := seen1_seq s (fun k => k < w.heap.size ∨ k = w.heap.size + 2) w3 (w.heap.size + 2) A c (HP.out.mono (fun _ h => .inl h) (hC3.mono fun _ _ h => h.elim)) hn (hB2.cell 0) (.inr rfl) (fun k h => by omega) (HA.out.chg hC3 (fun _ _ h => h)) (fun a ha => .inl (HAL.out a ha))
  refine range_law (gf := 75) (lb := #[.pointer (some ⟨w.heap.size + 2, 0, none⟩)]) rfl enters_seen1 hseq (Chg.refl _ _) (fun k h => by omega)
    (SeenI s w w.heap.size) (fun _ _ _ _ => False) (fun i => SeenI.stable s w w.heap.size i) (fun _ _ _ _ _ h _ => h) (fun k => k < w.heap.size + 2) ?_ (fun k h => by omega)
    (fun i vs X W W' ⟨A1, c1, e, h⟩ hc => ⟨A1, c1, e, h.chg hc (fun k h h' => h' h)⟩) (fun i vs X W ⟨A1, c1, e, h⟩ => by rw [e]; rfl)
    (fun vs => { tmps := #[.slice A s.n c, undef, .slice none 0 0, .slice none 0 0, .pointer (some ⟨w.heap.size, 0, none⟩), .pointer (some ⟨w.heap.size + 1, 0, none⟩), vs.getD 0 undef, vs.getD 1 undef, .slice A s.n c, .func (.func 75) #[] #[.pointer (some ⟨w.heap.size + 2, 0, none⟩)], vs.getD 0 undef, vs.getD 1 undef, undef, undef, undef, undef, undef, undef, undef, undef, undef, undef], defers := [] })
    ?assign ?body ?done ?stop
  · exact ⟨_, _, fun _ => (none, 0), ⟨Row.nil _ _ _ _, Row.nil _ _ _ _, fun j hj => by omega⟩, hC3.to_below, fun k h => by omega, by omega, by omega, hB0, hB1, by omega, by omega⟩
  case assign =>
    rintro l m i vs X W K ⟨A1, c1, rfl, h⟩ hK
    gi_wp2
    exact hK
  case body =>
    rintro l m i U X vs W hi hUb ⟨cv, rv, rs, ⟨r1, r2, r3⟩, hB, hUl, hU0, hU1, hb0, hb1, hUB, hsz⟩ ⟨A1, c1, rfl, rX⟩ hX
    have d0 : W.cell? ⟨w.heap.size, 0, none⟩ = some cv := hb0.cell 0
    have hn' : i + 1 ≤ 1099511627776 := by omega
    have HG := Lib.hid (And.intro r1 (And.intro r2 r3))
    have HR1 := Lib.hid r1
    have HR2 := Lib.hid r2
    have HB0 := Lib.hid hb0
    have HB1 := Lib.hid hb1
    have HRX := Lib.hid rX
    have HX := Lib.hid hX
    have HBW := Lib.hid hB
    have HUL := Lib.hid hUl
    clear r1 r2 r3 hb0 hb1 rX hX hB hUl hB0 hB1 hB2 hC3 hUb hseq
    have e0 : (#[Value.int .i64 (s.code i), .slice A1 (s.seg i).length c1] : Array Value).getD 0 undef = .int .i64 (s.code i) := rfl
    have e1 : (#[Value.int .i64 (s.code i), .slice A1 (s.seg i).length c1] : Array Value).getD 1 undef = .slice A1 (s.seg i).length c1 := rfl
    rw [e0, e1]
    clear e0 e1
    gi_wp2_with (first
      | (gi_at_builtin; refine wpListIn_append_row (by rfl) _ _ _ (by rfl) 38 i0 _ 1 8 Tryz.underlying103 hi0 hz0 hz1 hz2 rfl (by omega) cv i _ (by rfl) (HR1.out.alloc _) (some ⟨W.heap.size, 0, none⟩) 1 1 [.int .i64 (s.code i)] (by rfl) (by rfl) (Src.blk (Blk.new W _ _)) (by simp [Value.oneCell']) (by simp [maxLen]; omega) (by omega) ?_; intro A2 cap2 w1 hown hgrow _; have f0 := ((HB0.out.alloc _).other (HR1.out.alloc _) (by decide) hgrow).cell 0; have f0' := ((HB0.out.alloc _).other (HR1.out.alloc _) (by decide) hgrow).frozen 0; have f1 := ((HB1.out.alloc _).other (HR1.out.alloc _) (by decide) hgrow).cell 0; have f1' := ((HB1.out.alloc _).other (HR1.out.alloc _) (by decide) hgrow).frozen 0; have HRS := Lib.hid (((HR2.out.alloc _).other (HR1.out.alloc _) (by decide) hgrow).far (p := ⟨w.heap.size, 0, none⟩) (((HR2.out.alloc _).other (HR1.out.alloc _) (by decide) hgrow).ne_blk ((HB0.out.alloc _).other (HR1.out.alloc _) (by decide) hgrow) (by decide)) (.slice A2 (i + 1) cap2)); have HFB := Lib.hid (((HB1.out.alloc _).other (HR1.out.alloc _) (by decide) hgrow).far (p := ⟨w.heap.size, 0, none⟩) (by simp) (.slice A2 (i + 1) cap2)))
      | (gi_at_builtin; refine wpListIn_append_row (by rfl) _ _ _ (by rfl) 58 i1 _ 1 24 Tryz.underlying104 hi1 hy0 hy1 hy2 rfl (by omega) rv i _ (by rfl) (HRS.out.alloc _) (some ⟨w1.heap.size, 0, none⟩) 1 1 [.slice A1 (s.seg i).length c1] (by rfl) (by rfl) (Src.blk (Blk.newAt _ _ _ _ (by simp [World.setCell]))) (by simp [Value.oneCell']) (by simp [maxLen]; omega) (by omega) ?_; intro A3 cap3 w2 hown2 hgrow2 _; have g1 := (HFB.out.alloc _).other (HRS.out.alloc _) (by decide) hgrow2; have g1c := g1.cell 0; have g1f := g1.frozen 0))
    exact SeenI.round HG.out HBW.out HUL.out hU0 hU1 HB0.out HB1.out hUB hsz HX.out HRX.out (hown.retag fun k _ h => by simpa using h) hgrow rfl hown2 hgrow2
  case done =>
    rintro D U W hD ⟨cv, rv, rs, hg, hB, hUl, hU0, hU1, hb0, hb1, hUB, hsz⟩ hUD hWD
    have d0 : W.cell? ⟨w.heap.size, 0, none⟩ = some cv := hb0.cell 0
    have d1 : W.cell? ⟨w.heap.size + 1, 0, none⟩ = some rv := hb1.cell 0
    have HD := Lib.hid (And.intro hg (And.intro hB (And.intro hUl hUD)))
    clear hg hB hUl hUD hb0 hb1 hB0 hB1 hB2 hC3 hseq
    gi_wp2
    refine wpIn_wide.2 ?_
    go_quiet (fail)
    gi_wp2
    have hWD2 : (W.drewN nq).heap[D]? = some (.deferred (some [])) := hWD
    obtain ⟨⟨g1, g2, g3⟩, hB, hUl, hUD⟩ := HD.out
    have hcD : Chg (fun k => k = D) W ((W.drewN nq).putObj D (.deferred none)) := ((Chg.refl _ W).drewN nq).putObj _ _ (.inl rfl)
    have hS : ∀ k, U k ∧ w.heap.size ≤ k → ¬ k = D := fun k h e => hUD (e ▸ h.1)
    refine ⟨by simp, .inl ⟨_, _, rfl, run_takeDeferred hWD2, ?_⟩⟩
    refine ⟨_, results_tmp2 rfl _ _ _, cv, rv, _, rfl, ⟨(g1.chg hcD hS).retag fun k _ h => h.2, (g2.chg hcD hS).retag fun k _ h => h.2, fun j hj => ((g3 j hj).chg hcD hS).retag fun k _ h => h.2⟩, ?_⟩
    exact ⟨hcD.os.trans hB.os, hcD.tape.trans hB.tape, hcD.output.trans hB.output, Nat.le_trans hB.size hcD.size, fun k hk => (hcD.block k (Nat.lt_of_lt_of_le hk hB.size) (fun h => by omega)).trans (hB.block k hk)⟩
  case stop =>
    rintro D c i U W _ _ h
    exact h.elim
end Go.Proofs.YtpifjikpojikgaaGreatR
