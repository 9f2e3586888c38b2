/-
  No cell of these rows narrows 'for every input' (looked for: loops, veiled, ifaces, maps, wideKeys, modest, calm, conditions, laid).
  DERIVED. THE GIVEN ROWS OF THIS SEAT. 5 by the template 'for every input the law returns true; each argument reads behind the call as it read before'; 0 by the template 'total and deterministic' (their statements: YtpifjikpojikgaaGreatRTotals.lean).
  GIVEN WITH THE SEED: the statements are not yours to turn. If you find one false, say at which input.
  Laid BY PROGRAM, IN A SANDBOX (cutbox-rows.mjs): the forced cells as the released guide's own fill.sh prints them over the translation 850c67b414bdd18d… (all of the seat's roots in one cut). By AI agents, Wed Nov 11 2026. No macro, syntax, notation, axiom, sorry.
-/
import Derived.Test.YtpifjikpojikgaaGreatRChecked
import GoSem.Claim
import GoSem.ClaimJoined
import GoSem.ClaimMapViews
import Derived.JoinedTies
import Derived.KernelRfl
namespace Go.Proofs.YtpifjikpojikgaaGreatR
/- THE CELL 'sum', in the pinned program and in every row, IS THE sha256 OF THE DUMP (.gsa) THAT YtpifjikpojikgaaGreatRProg.lean LOADS. Nothing in Lean hashes anything: it is a label: what it is worth is what the hold of that sum in a sandbox is worth. -/
noncomputable def Tryz.pinned : Pinned := { name := "ytpifjikpojikgaagreatr", sum := "850c67b414bdd18d94b95ed0e8d56cc0cb8baa86fe95835ae30eaf4cd0fab9fd", checked := Tryz.checked }
namespace Rows
def none {H : Type} : Left H := { results := [], args := [] }

/-- 'turnkeylaw24.VaultWiped': WHATEVER THE INPUT: true; the input reads as it did. -/
def vaultWipedSpec : ChangeSpec := { name := "vaultWiped", fn := fun _ => fun
  | [d] => { results := [.lit (.bool true)], args := [d] }
  | _ => none }
def vaultWipedRow : OpenClaim := { program := "ytpifjikpojikgaagreatr", sum := "850c67b414bdd18d94b95ed0e8d56cc0cb8baa86fe95835ae30eaf4cd0fab9fd", func := "turnkey/turnkeylaw24.VaultWiped", spec := "vaultWiped", unfollowed := true, recurses := true, apart := false }
def VaultWipedSaid : Prop := vaultWipedRow.holds Tryz.pinned (OpenSpec.ofChange vaultWipedSpec)

/-- ITS FALSE NEIGHBOUR: 'it returns false'. Refute it at one input. -/
def vaultWipedWrong : ChangeSpec := { name := "vaultWiped", fn := fun _ => fun
  | [d] => { results := [.lit (.bool false)], args := [d] }
  | _ => none }
def VaultWipedWrongFalsely : Prop := vaultWipedRow.holds Tryz.pinned (OpenSpec.ofChange vaultWipedWrong)

/-- 'turnkeylaw24.VaultNames': WHATEVER THE INPUT: true; the input reads as it did. -/
def vaultNamesSpec : ChangeSpec := { name := "vaultNames", fn := fun _ => fun
  | [] => { results := [.lit (.bool true)], args := [] }
  | _ => none }
def vaultNamesRow : OpenClaim := { program := "ytpifjikpojikgaagreatr", sum := "850c67b414bdd18d94b95ed0e8d56cc0cb8baa86fe95835ae30eaf4cd0fab9fd", func := "turnkey/turnkeylaw24.VaultNames", spec := "vaultNames", unfollowed := true, recurses := true, apart := false }
def VaultNamesSaid : Prop := vaultNamesRow.holds Tryz.pinned (OpenSpec.ofChange vaultNamesSpec)

/-- ITS FALSE NEIGHBOUR: 'it returns false'. Refute it at one input. -/
def vaultNamesWrong : ChangeSpec := { name := "vaultNames", fn := fun _ => fun
  | [] => { results := [.lit (.bool false)], args := [] }
  | _ => none }
def VaultNamesWrongFalsely : Prop := vaultNamesRow.holds Tryz.pinned (OpenSpec.ofChange vaultNamesWrong)

/-- 'turnkeylaw26.PairLong': WHATEVER THE INPUT: true; the input reads as it did. -/
def pairLongSpec : ChangeSpec := { name := "pairLong", fn := fun _ => fun
  | [] => { results := [.lit (.bool true)], args := [] }
  | _ => none }
def pairLongRow : OpenClaim := { program := "ytpifjikpojikgaagreatr", sum := "850c67b414bdd18d94b95ed0e8d56cc0cb8baa86fe95835ae30eaf4cd0fab9fd", func := "turnkey/turnkeylaw26.PairLong", spec := "pairLong", unfollowed := true, recurses := true, apart := false }
def PairLongSaid : Prop := pairLongRow.holds Tryz.pinned (OpenSpec.ofChange pairLongSpec)

/-- ITS FALSE NEIGHBOUR: 'it returns false'. Refute it at one input. -/
def pairLongWrong : ChangeSpec := { name := "pairLong", fn := fun _ => fun
  | [] => { results := [.lit (.bool false)], args := [] }
  | _ => none }
def PairLongWrongFalsely : Prop := pairLongRow.holds Tryz.pinned (OpenSpec.ofChange pairLongWrong)

/-- 'turnkeylaw24.VaultPublic': WHATEVER THE INPUT: true; the input reads as it did. -/
def vaultPublicSpec : ChangeSpec := { name := "vaultPublic", fn := fun _ => fun
  | [d1, d2] => { results := [.lit (.bool true)], args := [d1, d2] }
  | _ => none }
def vaultPublicRow : OpenClaim := { program := "ytpifjikpojikgaagreatr", sum := "850c67b414bdd18d94b95ed0e8d56cc0cb8baa86fe95835ae30eaf4cd0fab9fd", func := "turnkey/turnkeylaw24.VaultPublic", spec := "vaultPublic", unfollowed := true, recurses := true, apart := false }
def VaultPublicSaid : Prop := vaultPublicRow.holds Tryz.pinned (OpenSpec.ofChange vaultPublicSpec)

/-- ITS FALSE NEIGHBOUR: 'it returns false'. Refute it at one input. -/
def vaultPublicWrong : ChangeSpec := { name := "vaultPublic", fn := fun _ => fun
  | [d1, d2] => { results := [.lit (.bool false)], args := [d1, d2] }
  | _ => none }
def VaultPublicWrongFalsely : Prop := vaultPublicRow.holds Tryz.pinned (OpenSpec.ofChange vaultPublicWrong)

/-- 'turnkeylaw26.PairNames': WHATEVER THE INPUT: true; the input reads as it did. -/
def pairNamesSpec : ChangeSpec := { name := "pairNames", fn := fun _ => fun
  | [] => { results := [.lit (.bool true)], args := [] }
  | _ => none }
def pairNamesRow : OpenClaim := { program := "ytpifjikpojikgaagreatr", sum := "850c67b414bdd18d94b95ed0e8d56cc0cb8baa86fe95835ae30eaf4cd0fab9fd", func := "turnkey/turnkeylaw26.PairNames", spec := "pairNames", unfollowed := true, recurses := true, apart := false }
def PairNamesSaid : Prop := pairNamesRow.holds Tryz.pinned (OpenSpec.ofChange pairNamesSpec)

/-- ITS FALSE NEIGHBOUR: 'it returns false'. Refute it at one input. -/
def pairNamesWrong : ChangeSpec := { name := "pairNames", fn := fun _ => fun
  | [] => { results := [.lit (.bool false)], args := [] }
  | _ => none }
def PairNamesWrongFalsely : Prop := pairNamesRow.holds Tryz.pinned (OpenSpec.ofChange pairNamesWrong)

/- THE SECOND FORM. 'bulk': how many values and letters a reading holds, each counted each time it is reached (what is shared counts as often as it is met; a slice's spare places count too). A statement '..UptoSaid' is the law's where the arguments, and the package variables that the reading takes, are together of bulk at most 1048576: NARROWER than '..Said'. Prove '..Said' where nothing that the law and all that it calls make is longer than what came in: it says more and counts as full. Else prove '..UptoSaid'. A law counts once. -/
mutual
def uptoBulk {H : Type} : DataW H → Nat
  | .lit (.string bytes) => bytes.length + 1
  | .lit _ => 1
  | .nil => 1
  | .ptr d => uptoBulk d + 1
  | .slice elems spare => uptoBulkAll elems + uptoBulkAll spare + 1
  | .agg parts => uptoBulkAll parts + 1
  | .iface _ d => uptoBulk d + 1
  | .map entries => uptoBulkEntries entries + 1
  | .held _ => 1
def uptoBulkAll {H : Type} : List (DataW H) → Nat
  | [] => 0
  | d :: r => uptoBulk d + uptoBulkAll r
def uptoBulkEntries {H : Type} : List (Lit × DataW H) → Nat
  | [] => 0
  | x :: r => uptoBulkEntry x + uptoBulkEntries r
def uptoBulkEntry {H : Type} : Lit × DataW H → Nat
  | (.string bytes, d) => bytes.length + uptoBulk d + 1
  | (_, d) => uptoBulk d + 1
 end
def uptoSmall : (H : Type) → List (DataW H) → Bool := fun _ ds => decide (uptoBulkAll ds ≤ 1048576)
def OpenSpec.upto (s : _root_.Go.ChangeSpec) : _root_.Go.OpenSpec := { _root_.Go.OpenSpec.ofChange s with cond := some uptoSmall }

/-- 'turnkeylaw24.VaultWiped', WHERE WHAT IT READS IS OF BULK AT MOST 1048576: true; the input reads as it did. -/
def vaultWipedUptoRow : OpenClaim := { program := "ytpifjikpojikgaagreatr", sum := "850c67b414bdd18d94b95ed0e8d56cc0cb8baa86fe95835ae30eaf4cd0fab9fd", func := "turnkey/turnkeylaw24.VaultWiped", spec := "vaultWiped", unfollowed := true, recurses := true, apart := false, narrowed := true }
def VaultWipedUptoSaid : Prop := vaultWipedUptoRow.holds Tryz.pinned (OpenSpec.upto vaultWipedSpec)

/-- 'turnkeylaw24.VaultNames', WHERE WHAT IT READS IS OF BULK AT MOST 1048576: true; the input reads as it did. -/
def vaultNamesUptoRow : OpenClaim := { program := "ytpifjikpojikgaagreatr", sum := "850c67b414bdd18d94b95ed0e8d56cc0cb8baa86fe95835ae30eaf4cd0fab9fd", func := "turnkey/turnkeylaw24.VaultNames", spec := "vaultNames", unfollowed := true, recurses := true, apart := false, narrowed := true }
def VaultNamesUptoSaid : Prop := vaultNamesUptoRow.holds Tryz.pinned (OpenSpec.upto vaultNamesSpec)

/-- 'turnkeylaw26.PairLong', WHERE WHAT IT READS IS OF BULK AT MOST 1048576: true; the input reads as it did. -/
def pairLongUptoRow : OpenClaim := { program := "ytpifjikpojikgaagreatr", sum := "850c67b414bdd18d94b95ed0e8d56cc0cb8baa86fe95835ae30eaf4cd0fab9fd", func := "turnkey/turnkeylaw26.PairLong", spec := "pairLong", unfollowed := true, recurses := true, apart := false, narrowed := true }
def PairLongUptoSaid : Prop := pairLongUptoRow.holds Tryz.pinned (OpenSpec.upto pairLongSpec)

/-- 'turnkeylaw24.VaultPublic', WHERE WHAT IT READS IS OF BULK AT MOST 1048576: true; the input reads as it did. -/
def vaultPublicUptoRow : OpenClaim := { program := "ytpifjikpojikgaagreatr", sum := "850c67b414bdd18d94b95ed0e8d56cc0cb8baa86fe95835ae30eaf4cd0fab9fd", func := "turnkey/turnkeylaw24.VaultPublic", spec := "vaultPublic", unfollowed := true, recurses := true, apart := false, narrowed := true }
def VaultPublicUptoSaid : Prop := vaultPublicUptoRow.holds Tryz.pinned (OpenSpec.upto vaultPublicSpec)

/-- 'turnkeylaw26.PairNames', WHERE WHAT IT READS IS OF BULK AT MOST 1048576: true; the input reads as it did. -/
def pairNamesUptoRow : OpenClaim := { program := "ytpifjikpojikgaagreatr", sum := "850c67b414bdd18d94b95ed0e8d56cc0cb8baa86fe95835ae30eaf4cd0fab9fd", func := "turnkey/turnkeylaw26.PairNames", spec := "pairNames", unfollowed := true, recurses := true, apart := false, narrowed := true }
def PairNamesUptoSaid : Prop := pairNamesUptoRow.holds Tryz.pinned (OpenSpec.upto pairNamesSpec)

end Rows
end Go.Proofs.YtpifjikpojikgaaGreatR
