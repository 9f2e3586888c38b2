/- What a ledger tells since a mark. -/
import Derived.Test.YtpifjikpojikgaaGreatRVault7
import Derived.Test.YtpifjikpojikgaaGreatRRange
import Derived.Test.YtpifjikpojikgaaGreatRLedger4
namespace Go.Proofs.YtpifjikpojikgaaGreatR
open Go.RowKit

def tot (l : List Rn) : Int := (l.map (·.count)).sum
theorem tot_append (a b : List Rn) : tot (a ++ b) = tot a + tot b := by simp [tot]
theorem tot_pos (l : List Rn) (h : ∀ r ∈ l, 1 ≤ r.count) : (l.length : Int) ≤ tot l := by
  induction l with
  | nil => simp [tot]
  | cons r l ih =>
    have h1 := h r (by simp)
    have h2 := ih (fun r hr => h r (by simp [hr]))
    simp only [tot, List.map_cons, List.sum_cons, List.length_cons] at *
    omega
theorem back_seg (R : List Rn) (mark : Int) (hm : 0 ≤ mark) : ∀ (k : Nat) (sg tail : List Rn), sg.length = k → (∀ r ∈ sg, 1 ≤ r.count) → mark + tot sg ≤ 4611686018427387904 →
    back (R ++ sg ++ tail) mark (R.length + k) (mark + tot sg) = (R.length, mark)
  | 0, sg, tail, hk, _, _ => by
    obtain rfl : sg = [] := List.eq_nil_of_length_eq_zero hk
    simp only [tot, List.map_nil, List.sum_nil, Int.add_zero, Nat.add_zero]
    cases R.length with
    | zero => rfl
    | succ k => unfold back; rw [if_neg (by omega)]
  | k + 1, sg, tail, hk, hc, hb => by
    obtain ⟨sg', r, rfl⟩ : ∃ sg' r, sg = sg' ++ [r] := ⟨sg.dropLast, sg.getLast (by intro e; simp [e] at hk), (List.dropLast_concat_getLast _).symm⟩
    have hk' : sg'.length = k := by simpa using hk
    have hr := hc r (by simp)
    have hc' : ∀ r ∈ sg', 1 ≤ r.count := fun r hr => hc r (by simp [hr])
    have hp := tot_pos sg' hc'
    have ht : tot (sg' ++ [r]) = tot sg' + r.count := by simp [tot]
    rw [ht] at hb
    have ih := back_seg R mark hm k sg' ([r] ++ tail) hk' hc' (by omega)
    rw [show R.length + (k + 1) = R.length + k + 1 by omega]
    unfold back
    rw [if_pos (by omega)]
    have hg : (R ++ (sg' ++ [r]) ++ tail).getD (R.length + k) ⟨0, 0, 0⟩ = r := by
      simp [List.getD, List.append_assoc, hk']
    rw [hg, ht, show mark + (tot sg' + r.count) - r.count = mark + tot sg' by omega, show wrap64 (mark + tot sg') = mark + tot sg' from IntWalk.wrap64_in _ (by omega)]
    simpa [List.append_assoc] using ih

theorem since_led (a : Addr) (L : Led) (R sg : List Rn) (mark : Int) (S : Blocks) (w : World) (h : LedAt w S (some a) L) (hr : L.runs = R ++ sg) (hn : L.n = mark + tot sg) (hm : 0 ≤ mark) (hb : L.n ≤ 4611686018427387904) (hl : L.runs.length ≤ 1099511627776)
    (hc : ∀ r ∈ sg, 1 ≤ r.count) (hne : sg ≠ []) :
    Calls Tryz.prog 32 #[.pointer (some a), .int .i64 mark] w (SinceEnd w sg) := by
  obtain ⟨b, rv, rfl, hS, hB, hR, hnil⟩ := h a rfl
  have hlen : 0 < sg.length := List.length_pos_iff.2 hne
  have hp := tot_pos sg hc
  rcases hR.open_ with ⟨rfl, h0, _⟩ | ⟨g, cap, cur, rfl, _⟩
  · rw [hr] at h0; simp at h0; exact absurd h0.2 hne
  · have hb2 := back_seg R mark hm sg.length sg [] rfl hc (by omega)
    simp only [List.append_nil] at hb2
    have := since_some b g L.runs.length cap R.length L.n mark L.runs S w hB hR (by omega) rfl hl (by rw [hr, hn, List.length_append]; exact hb2) (by rw [hr, List.length_append]; omega)
    rw [hr, List.drop_left] at this
    exact this
end Go.Proofs.YtpifjikpojikgaaGreatR
