/- lives: a key is put, and told. -/
import Derived.Test.YtpifjikpojikgaaGreatRPair5
import Derived.Test.YtpifjikpojikgaaGreatRLedger4
import Derived.Test.YtpifjikpojikgaaGreatRPair4
import Derived.Lib.SmallJoins
import Derived.Laws.IdiomStrings
namespace Go.Proofs.YtpifjikpojikgaaGreatR
open Go.RowKit
attribute [local go_sem ↓] Go.wp_at_zero Go.wp_at_succ

def jefe : List Value := [.int .u8 74, .int .u8 101, .int .u8 102, .int .u8 101]
def livesPlay (b : Nat) : Play where
  n := 2
  ops := fun i => if i = 0 then ⟨1, 0, 0, 0, 0, some ⟨b, 0, none⟩, 4, 4, none, 0, 0⟩ else ⟨9, 0, 0, 0, 0, none, 0, 0, none, 0, 0⟩
  St := fun i L held vals mem =>
    match i with
    | 0 => L = ⟨[], 0⟩ ∧ held = List.replicate 64 false ∧ vals = List.replicate 64 .nilIface ∧ mem = fun _ => zeros
    | 1 => L = ⟨[⟨11, 1, 1⟩, ⟨12, 0, 1⟩], 2⟩ ∧ held = (List.replicate 64 false).set 0 true ∧ (∃ A c, vals = (List.replicate 64 .nilIface).set 0 (keyV (.slice A 4 c))) ∧ mem = fun h => if h = 0 then jefe ++ List.replicate 1020 (.int .u8 0) else zeros
    | _ => L = ⟨[⟨11, 1, 1⟩, ⟨12, 0, 1⟩, ⟨11, 9, 1⟩, ⟨12, 0, 1⟩], 4⟩
  An := fun i c h _ bytes => if i = 0 then c = 0 ∧ h = 0 else bytes = jefe
theorem jefe_one : ∀ u ∈ jefe, u.oneCell' = true := by simp [jefe, Value.oneCell']
theorem lives_goes (b : Nat) (w : World) (hb : b < w.heap.size) (hs : Src w (some ⟨b, 0, none⟩) jefe) : (livesPlay b).Goes w where
  start := ⟨rfl, rfl, rfl, rfl⟩
  bound := fun i L held vals mem h => by
    match i, h with
    | 0, ⟨h, _⟩ => rw [h]; simp
    | 1, ⟨h, _⟩ => rw [h]; simp
    | n + 2, h => rw [show L = _ from h]; simp
  step := fun i hi L held vals mem W T bv lp h hB hT hS => by
    match i, h with
    | 0, ⟨h1, h2, h3, h4⟩ =>
      refine (do_put bv 0 lp 0 0 0 0 (some ⟨b, 0, none⟩) 4 4 none 0 0 jefe L T W held vals mem hS (by rw [h1]; simp) (hs.chg (Chg.of_below (S := fun k => w.heap.size ≤ k) (hB)) (fun a ha => by cases ha; simp; omega)) (fun a ha h => by cases ha; have := hT _ h; simp at this; omega) rfl (by omega) jefe_one (by omega) (fun j hj => by omega) (by rw [h2]; rfl)).mono ?_
      intro e w' hd
      refine hd.mono ?_
      rintro code hh s bytes L' held' vals' mem' ⟨rfl, rfl, rfl, rfl, rfl, rfl, ⟨A', c', rfl⟩, rfl⟩
      exact ⟨⟨rfl, rfl⟩, by rw [h1]; simp [Led.note, noteRuns, wrap64], by rw [h2], ⟨A', c', by rw [h3]⟩, by rw [h4]⟩
    | 1, ⟨h1, h2, ⟨A', c', h3⟩, h4⟩ =>
      refine (do_reveal_key bv 0 lp 0 0 0 none 0 0 none 0 0 A' 4 c' L T W held vals mem hS (by rw [h1]; simp) (by omega) (by rw [h2]; rfl) (by rw [h3]; rfl) (by omega) (by rw [h4]; exact jefe_one)).mono ?_
      intro e w' hd
      refine hd.mono ?_
      rintro code hh s bytes L' held' vals' mem' ⟨rfl, rfl, rfl, rfl, rfl, rfl, rfl, rfl⟩
      exact ⟨by rw [h4]; rfl, by rw [h1]; show _ = (⟨_, _⟩ : Led); simp [Led.note, noteRuns, wrap64]⟩
    | n + 2, _ => exact absurd hi (by show ¬ n + 2 < 2; omega)

set_option maxRecDepth 100000 in
set_option maxHeartbeats 1600000 in
theorem lives_any (w : World) : Calls Tryz.prog 28 #[] w fun e w' => e = .returned (.bool true) ∧ Below w.heap.size w w' := by
  have CB := Go.Joins.run_convert_bytes_const_at (P := Tryz.prog) w 35 5 #[.int .u8 74, .int .u8 101, .int .u8 102, .int .u8 101] 4 4 w.heap.size rfl Tryz.underlying35 Tryz.underlying5
  go_enter Tryz.func28, Tryz.ntmps28
  go_wp2_with fail
  clear CB
  generalize hW1 : World.alloc w _ = W1
  have hs1 : W1.heap.size = w.heap.size + 1 := by rw [← hW1]; simp
  have hb1 : Below w.heap.size w W1 := by rw [← hW1]; exact (Below.refl _ w).alloc (Nat.le_refl _) _
  have hSrc : Src W1 (some ⟨w.heap.size, 0, none⟩) jefe := ⟨(fun h => nomatch h), fun ad h j u hu => by
    cases h
    rw [add_lit, ← hW1, Go.Joins.cell_alloc_mark_at _ _ _ _ _ _ rfl]
    simpa [jefe] using hu⟩
  clear hW1
  generalize hW2 : World.alloc W1 _ = W2
  have hSO : Src W2 (some ⟨w.heap.size + 1, 0, none⟩) (opsCells (livesPlay w.heap.size).ops (livesPlay w.heap.size).n) := by rw [← hW2]; exact Src.blk (Blk.newAt _ _ _ _ hs1.symm)
  have hb2 : Below w.heap.size w W2 := by rw [← hW2]; exact hb1.alloc (by omega) _
  have hs2 : W2.heap.size = w.heap.size + 2 := by rw [← hW2]; simp [hs1]
  have hS2 : Src W2 (some ⟨w.heap.size, 0, none⟩) jefe := by rw [← hW2]; exact hSrc.chg ((Chg.refl (fun _ => False) W1).alloc _) (fun _ _ h => h)
  clear hW2 hSrc
  refine (run_any (livesPlay w.heap.size) (some ⟨w.heap.size + 1, 0, none⟩) 2 W2 (lives_goes _ W2 (by omega) hS2) (by show 2 ≤ _; omega) hSO (fun a ha => by cases ha; simp; omega)).mono ?_
  rintro e w3 ⟨ov, az, L, held, vals, mem, A, cap, rfl, hSt, ⟨g1, g2⟩, hr, hb3⟩
  have hL : L = ⟨[⟨11, 1, 1⟩, ⟨12, 0, 1⟩, ⟨11, 9, 1⟩, ⟨12, 0, 1⟩], 4⟩ := hSt
  subst hL
  clear hSt
  obtain ⟨⟨z0, z1⟩, r0⟩ := g2 0 (by show 0 < 2; omega)
  obtain ⟨y0, r1⟩ := g2 1 (by show 1 < 2; omega)
  have g1' : Row w3 _ _ 4 ov 2 ((az 0).cells ++ (az 1).cells) := g1
  rcases g1'.open_ with ⟨_, h, _⟩ | ⟨g, cap1, cur, rfl, _⟩
  · omega
  have S1 := Src.of_row g1'
  generalize hz : az 0 = a0 at *
  generalize hy : az 1 = a1 at *
  obtain ⟨cd0, h0, s0, A0, n0, c0, by0⟩ := a0
  obtain ⟨cd1, h1, s1, A1, n1, c1, by1⟩ := a1
  have hby : by1 = jefe := y0
  dsimp only at z0 z1 r1
  subst z0 z1 hby
  obtain rfl : n1 = 4 := by have := r1.len; simp [jefe] at this; omega
  rcases r1.open_ with ⟨_, h, _⟩ | ⟨g1b, cap2, cur2, hv, _⟩
  · omega
  simp only [Value.slice.injEq] at hv
  obtain ⟨rfl, _, rfl⟩ := hv
  have S2 := Src.of_row r1
  have S3 := Src.of_row hr
  have cc : ∀ (o : Obj) (p : Addr) (v : Value), w3.cell? p = some v → (w3.alloc o).cell? p = some v := fun o p v h => (Below.cell ((Below.refl _ w3).alloc (Nat.le_refl _) o) (World.block_lt_of_cell? w3 _ h)).trans h
  have e0 : ∀ o : Obj, (w3.alloc o).cell? ⟨g, 0, none⟩ = some (.int .i64 0) := fun o => cc o _ _ (S1.2 _ rfl 0 _ rfl)
  have e1 : ∀ o : Obj, (w3.alloc o).cell? ⟨g, 1, none⟩ = some (.int .i64 0) := fun o => cc o _ _ (S1.2 _ rfl 1 _ rfl)
  have e7 : ∀ o : Obj, (w3.alloc o).cell? ⟨g, 7, none⟩ = some (.slice (some ⟨g1b, 0, none⟩) 4 c1) := fun o => cc o _ _ (S1.2 _ rfl 7 _ rfl)
  have hcv : ∀ o : Obj, (convert 35 9 (.slice (some ⟨g1b, 0, none⟩) 4 c1)).run Tryz.prog (w3.alloc o) = .ok (.string ⟨#[74, 101, 102, 101]⟩) (w3.alloc o) := fun o =>
    run_convert_bytes_back (P := Tryz.prog) (w3.alloc o) 35 9 5 ⟨g1b, 0, none⟩ c1 [74, 101, 102, 101] Tryz.underlying35 Tryz.underlying5 Tryz.underlying9 (fun j hj => cc o _ _ (by
      refine S2.2 _ rfl j _ ?_
      match j, hj with
      | 0, _ => rfl
      | 1, _ => rfl
      | 2, _ => rfl
      | 3, _ => rfl))
  have hsr := fun (o : Obj) (h : Src (w3.alloc o) (some ⟨w3.heap.size, 0, none⟩) _) => sameRuns_eq A (some ⟨w3.heap.size, 0, none⟩) cap 4 _ (w3.alloc o) (S3.chg ((Chg.refl (fun _ => False) w3).alloc o) (fun _ _ h => h)) h (by simp)
  have HSR := Lib.hid hsr
  have HB3 := Lib.hid (hb2.trans (hb3.mono hb2.size))
  clear hsr S1 S2 S3 cc g1 g1' g2 hr hb3 hb2 hSO hS2 r0 r1 y0 hb1
  go_wp2_with fail
  refine (HSR.out _ (Src.blk (Blk.new w3 _ _))).mono ?_
  rintro e w5 ⟨rfl, nq, rfl⟩
  go_wp2_with fail
  go_ret
  exact ⟨rfl, (HB3.out.alloc HB3.out.size _).trans ⟨rfl, rfl, rfl, Nat.le_refl _, fun _ _ => rfl⟩⟩
end Go.Proofs.YtpifjikpojikgaaGreatR
