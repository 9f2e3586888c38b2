/- The vault: the table of the calls. -/
import Derived.Test.YtpifjikpojikgaaGreatRVault
import Derived.MapKept
namespace Go.Proofs.YtpifjikpojikgaaGreatR
open Go.RowKit

/-- What each kind of operation does. -/
def entries (bv : Nat) : List MapEntry :=
  [⟨.int .u8 1, .func (.func 63) #[ptr bv] #[], 0⟩, ⟨.int .u8 2, .func (.func 64) #[ptr bv] #[], 1⟩, ⟨.int .u8 3, .func (.func 65) #[ptr bv] #[], 2⟩,
   ⟨.int .u8 4, .func (.func 66) #[ptr bv] #[], 3⟩, ⟨.int .u8 5, .func (.func 67) #[ptr bv] #[], 4⟩, ⟨.int .u8 6, .func (.func 68) #[ptr bv] #[], 5⟩,
   ⟨.int .u8 7, .func (.func 69) #[ptr bv] #[], 6⟩, ⟨.int .u8 8, .func (.func 70) #[ptr bv] #[], 7⟩, ⟨.int .u8 9, .func (.func 71) #[ptr bv] #[], 8⟩,
   ⟨.int .u8 10, .func (.func 72) #[ptr bv] #[], 9⟩]
def ce (bv i : Nat) : Array MapEntry := ((entries bv).take i).toArray

theorem run_checkAt (em : Bool) (d : Nat) (w : World) (k : Int) : (Instr.checkKey em (d + 1) 33 (.int .u8 k)).run Tryz.prog w = .ok () w := by
  simp only [Instr.checkKey, Sem.run_bind, run_underlying Tryz.underlying33, Result.andThen_ok, Sem.run_pure]
theorem run_check (em : Bool) (w : World) (k : Int) : (Instr.checkKey em (9999 + 1) 33 (.int .u8 k)).run Tryz.prog w = .ok () w := run_checkAt em 9999 w k
theorem run_find (w : World) (k : Int) (es : List MapEntry) (r : Option (Nat × Value)) (h : Instr.findNow (.int .u8) (.int .u8 k) es 0 = some r) : (Instr.findKey 33 (.int .u8 k) es).run Tryz.prog w = .ok r w := by
  simp only [Instr.findKey, Sem.run_bind, run_underlying Tryz.underlying33, Result.andThen_ok, h, Sem.run_pure]

theorem run_insert (w : World) (es : Array MapEntry) (c : Nat) (k : Int) (f : Value) (h : Instr.findNow (.int .u8) (.int .u8 k) es.toList 0 = some none) :
    (Instr.mapUpdate 95 (.map (some w.heap.size)) (.int .u8 k) f).run Tryz.prog (w.alloc (.map es c)) = .ok () (w.alloc (.map (es.push ⟨.int .u8 k, f, c⟩) (c + 1))) := by
  have hg : (w.alloc (.map es c)).heap[w.heap.size]? = some (.map es c) := heap_alloc_new w _
  have hset : ∀ o : Obj, (setObj w.heap.size o).run Tryz.prog (w.alloc (.map es c)) = .ok () (w.alloc o) := fun o => by
    have e : (w.heap.push (.map es c)).setIfInBounds w.heap.size o = w.heap.push o := by
      apply Array.ext_getElem?
      intro i
      simp only [Array.getElem?_setIfInBounds, Array.getElem?_push, Array.size_push]
      by_cases h1 : i = w.heap.size
      · subst h1; simp
      · simp [h1, Ne.symm h1]
    simp only [setObj, Sem.run, hg]
    show Result.ok () { w with heap := (w.heap.push (.map es c)).setIfInBounds w.heap.size o } = _
    rw [e]; rfl
  simp only [Instr.mapUpdate, Sem.run_bind, run_underlying Tryz.underlying95, Result.andThen_ok, MapKept.run_getObj_map hg, run_find _ _ _ _ h]
  rw [run_check]
  simp only [Result.andThen_ok, hset]


theorem ce_push (bv i : Nat) (e : MapEntry) (h : (entries bv)[i]? = some e) : (ce bv i).push e = ce bv (i + 1) := by
  unfold ce
  rw [List.push_toArray, List.take_add_one, h]
  rfl
theorem ins (bv i : Nat) (k : Int) (f : Value) (w : World) (h : (entries bv)[i]? = some ⟨.int .u8 k, f, i⟩) (h2 : Instr.findNow (.int .u8) (.int .u8 k) ((entries bv).take i) 0 = some none) :
    (Instr.mapUpdate 95 (.map (some w.heap.size)) (.int .u8 k) f).run Tryz.prog (w.alloc (.map (ce bv i) i)) = .ok () (w.alloc (.map (ce bv (i + 1)) (i + 1))) := by
  rw [← ce_push bv i _ h]
  exact run_insert w _ _ _ _ h2

set_option maxRecDepth 100000 in
set_option maxHeartbeats 800000 in
theorem calls_any (bv : Nat) (w : World) : Calls Tryz.prog 44 #[ptr bv] w fun e w' =>
    e = .returned (.map (some w.heap.size)) ∧ w' = w.alloc (.map (ce bv 10) 10) := by
  have hmm := @run_makeMap Tryz.prog
  have hce : (#[] : Array MapEntry) = ce bv 0 := rfl
  have i0 := ins bv 0 _ _ w rfl rfl
  have i1 := ins bv 1 _ _ w rfl rfl
  have i2 := ins bv 2 _ _ w rfl rfl
  have i3 := ins bv 3 _ _ w rfl rfl
  have i4 := ins bv 4 _ _ w rfl rfl
  have i5 := ins bv 5 _ _ w rfl rfl
  have i6 := ins bv 6 _ _ w rfl rfl
  have i7 := ins bv 7 _ _ w rfl rfl
  have i8 := ins bv 8 _ _ w rfl rfl
  have i9 := ins bv 9 _ _ w rfl rfl
  unfold ptr at *
  go_enter Tryz.func44, Tryz.ntmps44
  go_wp2_with fail
  go_ret
  exact ⟨rfl, rfl⟩

theorem run_lookup (bv i : Nat) (k : Int) (f : Value) (r : Nat) (w : World) (hr : w.heap[r]? = some (.map (ce bv 10) 10)) (h : Instr.findNow (.int .u8) (.int .u8 k) (entries bv) 0 = some (some (i, f))) :
    (Instr.lookup 95 (.map (some r)) (.int .u8 k) true).run Tryz.prog w = .ok (.tuple #[f, .bool true]) w := by
  have h' : Instr.findNow (.int .u8) (.int .u8 k) (ce bv 10).toList 0 = some (some (i, f)) := h
  simp only [Instr.lookup, Sem.run_bind, run_underlying Tryz.underlying95, Result.andThen_ok, MapKept.run_getObj_map hr, Sem.run_pure]
  rw [run_check]
  simp only [Result.andThen_ok, run_find _ _ _ _ h', Sem.run_bind, Sem.run_pure, if_true]

theorem vaultIs_any (bv bt : Nat) (w : World) (c0 : w.cell? ⟨bv, 0, none⟩ = some (ptr bt)) :
    Calls Tryz.prog 41 #[ptr bv] w fun e w' => e = .returned (.bool true) ∧ w = w' := by
  unfold ptr at *
  go_enter Tryz.func41, Tryz.ntmps41
  go_wp2_with fail
  go_ret
  exact ⟨rfl, rfl⟩

end Go.Proofs.YtpifjikpojikgaaGreatR
