/- The ledger: NoteTimes whole, Note, Len, Mark, Since, Runs. -/
import Derived.Test.YtpifjikpojikgaaGreatRLedger
namespace Go.Proofs.YtpifjikpojikgaaGreatR
open Go.RowKit

theorem rnCells_append (l l' : List Rn) : rnCells (l ++ l') = rnCells l ++ rnCells l' := by simp [rnCells]
theorem length_rnCells (l : List Rn) : (rnCells l).length = l.length * 3 := by
  induction l with
  | nil => rfl
  | cons r l ih => simp [rnCells, Rn.cells] at ih ⊢; omega
theorem noteRuns_snoc (l : List Rn) (r : Rn) (k s c : Int) : noteRuns (l ++ [r]) k s c = if r.kind = k ∧ r.size = s then l ++ [⟨k, s, wrap64 (r.count + c)⟩] else l ++ [r, ⟨k, s, c⟩] := by
  induction l with
  | nil => simp [noteRuns]
  | cons a l ih =>
    cases l with
    | nil => simp only [List.nil_append, List.cons_append, noteRuns] at ih ⊢; split <;> rfl
    | cons b l => simp only [List.cons_append, noteRuns] at ih ⊢; rw [ih]; split <;> rfl

/-- NoteTimes: the event is put behind the ledger's runs; nil: nothing. -/
theorem noteTimes_any (k s n : Int) (p : Option Addr) (L : Led) (S : Nat → Prop) (w : World) (h : LedAt w S p L) (hn : 1 ≤ n) (hl : L.runs.length ≤ 1099511627776) :
    Calls Tryz.prog 62 #[.pointer p, .agg #[.int .u8 k, .int .i64 s], .int .i64 n] w fun e w' =>
    e = .returned (.tuple #[]) ∧ Chg S w w' ∧ LedAt w' (fun k => S k ∨ w.heap.size ≤ k) p (L.note k s n) := by
  cases p with
  | none => exact (noteTimes_nil k s n w).mono fun e w' ⟨he, hb⟩ => ⟨he, .of_below hb, .none_ _ _ _⟩
  | some a =>
    obtain ⟨b, rv, rfl, hS, hb, hr, hz⟩ := h a rfl
    obtain ⟨runs, N⟩ := L
    rcases List.eq_nil_or_concat runs with rfl | ⟨l, r, hlr⟩
    · obtain rfl := hz rfl
      refine (noteTimes_empty k s n N b S w hS hb hn).mono fun e w' ⟨he, hc, rv, hb, hr⟩ => ⟨he, hc, fun a ha => ?_⟩
      cases ha
      exact ⟨b, rv, rfl, .inl hS, hb, hr, fun h => by simp [Led.note, noteRuns] at h⟩
    · obtain rfl : l ++ [r] = runs := by simp [hlr]
      obtain ⟨rk, rs, rc⟩ := r
      have hlen : (l ++ [(⟨rk, rs, rc⟩ : Rn)]).length = l.length + 1 := by simp
      have hcells : rnCells (l ++ [(⟨rk, rs, rc⟩ : Rn)]) = rnCells l ++ [.int .u8 rk, .int .i64 rs, .int .i64 rc] := by rw [rnCells_append]; rfl
      simp only [hlen] at hr hl
      rw [hcells] at hr
      rcases hr.open_ with ⟨_, h0, _⟩ | ⟨g, cap, cur, rfl, _⟩
      · omega
      by_cases hk : rk = k ∧ rs = s
      · obtain ⟨rfl, rfl⟩ := hk
        refine (noteTimes_same rk rs n N rc b g l.length cap S w hS hb hn (rnCells l) (length_rnCells l) hr (by omega)).mono fun e w' ⟨he, hc, rv, hb, hr⟩ => ⟨he, hc, fun a ha => ?_⟩
        cases ha
        refine ⟨b, rv, rfl, .inl hS, hb, ?_, fun h => ?_⟩
        · simp only [Led.note, noteRuns_snoc, and_self, if_true, List.length_append, List.length_cons, List.length_nil, rnCells_append]
          exact hr.retag fun k _ h => .inl h
        · simp [Led.note, noteRuns_snoc] at h
      · refine (noteTimes_more k s n N rk rs rc b g l.length cap S w hS hb hn (rnCells l) (length_rnCells l) hr (by omega) (by
          by_cases h1 : rk = k
          · exact .inr ⟨h1, fun h2 => hk ⟨h1, h2⟩⟩
          · exact .inl h1)).mono fun e w' ⟨he, hc, rv, hb, hr⟩ => ⟨he, hc, fun a ha => ?_⟩
        cases ha
        refine ⟨b, rv, rfl, .inl hS, hb, ?_, fun h => ?_⟩
        · simp only [Led.note, noteRuns_snoc, if_neg hk, List.length_append, List.length_cons, List.length_nil]
          rw [show l ++ [(⟨rk, rs, rc⟩ : Rn), ⟨k, s, n⟩] = (l ++ [⟨rk, rs, rc⟩]) ++ [⟨k, s, n⟩] by simp, rnCells_append, hcells]
          exact hr
        · simp [Led.note, noteRuns_snoc, if_neg hk] at h

theorem note_any (k s : Int) (p : Option Addr) (L : Led) (S : Nat → Prop) (w : World) (h : LedAt w S p L) (hl : L.runs.length ≤ 1099511627776) :
    Calls Tryz.prog 43 #[.pointer p, .agg #[.int .u8 k, .int .i64 s]] w fun e w' =>
    e = .returned (.tuple #[]) ∧ Chg S w w' ∧ LedAt w' (fun k => S k ∨ w.heap.size ≤ k) p (L.note k s 1) := by
  have H := Lib.hid h
  have H2 := Lib.hid (Chg.refl S w)
  clear h
  go_enter Tryz.func43, Tryz.ntmps43
  go_wp2_with fail
  refine (noteTimes_any k s 1 p L S _ (H.out.chg (T := fun _ => False) ((Chg.refl _ w).alloc _) (fun _ _ h => h)) (by omega) hl).mono ?_
  rintro e w' ⟨rfl, hc, hL⟩
  have HC := Lib.hid hc
  have HL := Lib.hid hL
  clear hc hL
  go_wp2_with fail
  go_end0
  exact ⟨rfl, H2.out.alloc _ |>.trans HC.out (fun _ _ h => h), HL.out.retag fun k _ h => h.imp id (fun h => by simp at h; omega)⟩

/-- What Len tells. -/
def lenAt (p : Option Addr) (L : Led) : Int := if p = none then 0 else L.n
theorem len_any (p : Option Addr) (L : Led) (S : Nat → Prop) (w : World) (h : LedAt w S p L) :
    Calls Tryz.prog 49 #[.pointer p] w fun e w' => e = .returned (.int .i64 (lenAt p L)) ∧ w = w' := by
  cases p with
  | none =>
    go_enter Tryz.func49, Tryz.ntmps49
    go_wp2
    go_ret
    exact ⟨rfl, rfl⟩
  | some a =>
    obtain ⟨b, rv, rfl, hS, hb, hr, hz⟩ := h a rfl
    have c1 : w.cell? ⟨b, 1, none⟩ = some (.int .i64 L.n) := hb.cell 1
    clear hb hr hz
    go_enter Tryz.func49, Tryz.ntmps49
    go_wp2
    go_ret
    exact ⟨by simp [lenAt], rfl⟩

theorem mark_any (p : Option Addr) (L : Led) (S : Nat → Prop) (w : World) (h : LedAt w S p L) :
    Calls Tryz.prog 25 #[.pointer p] w fun e w' => e = .returned (.int .i64 (lenAt p L)) ∧ w = w' := by
  have H := Lib.hid h
  clear h
  go_enter Tryz.func25, Tryz.ntmps25
  go_wp2_with fail
  refine (len_any p L S _ H.out).mono ?_
  rintro e w' ⟨rfl, rfl⟩
  go_wp2_with fail
  go_ret
  exact ⟨rfl, rfl⟩

end Go.Proofs.YtpifjikpojikgaaGreatR
