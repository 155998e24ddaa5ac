/-
  No cell of these rows narrows 'for every input' (looked for: loops, veiled, ifaces, maps, wideKeys, modest, calm, conditions, laid).
  DERIVED. THE GIVEN ROWS OF THIS SEAT. 3 by the template 'for every input the law returns true; each argument reads behind the call as it read before'; 0 by the template 'total and deterministic' (their statements: YtoodifpkconfcaaTotals.lean).
  GIVEN WITH THE SEED: the statements are not yours to turn. If you find one false, say at which input.
  Laid BY PROGRAM, IN A SANDBOX (cutbox-rows.mjs): the forced cells as the released guide's own fill.sh prints them over the translation e1617784c154cbea… (all of the seat's roots in one cut). By AI agents, Wed Nov 11 2026. No macro, syntax, notation, axiom, sorry.
-/
import Derived.Test.YtoodifpkconfcaaChecked
import GoSem.Claim
import GoSem.ClaimJoined
import GoSem.ClaimMapViews
import Derived.JoinedTies
import Derived.KernelRfl
namespace Go.Proofs.Ytoodifpkconfcaa
/- THE CELL 'sum', in the pinned program and in every row, IS THE sha256 OF THE DUMP (.gsa) THAT YtoodifpkconfcaaProg.lean LOADS. Nothing in Lean hashes anything: it is a label: what it is worth is what the hold of that sum in a sandbox is worth. -/
noncomputable def Try.pinned : Pinned := { name := "ytoodifpkconfcaa", sum := "e1617784c154cbea26490038e409a2eb862605dad49a5bc15912c7f97d7ac9fe", checked := Try.checked }
namespace Rows
def none {H : Type} : Left H := { results := [], args := [] }

/-- 'gangliontop.TopKnown': WHATEVER THE INPUT: true; the input reads as it did. -/
def topKnownSpec : ChangeSpec := { name := "topKnown", fn := fun _ => fun
  | [d1, d2, d3, d4, d5] => { results := [.lit (.bool true)], args := [d1, d2, d3, d4, d5] }
  | _ => none }
def topKnownRow : OpenClaim := { program := "ytoodifpkconfcaa", sum := "e1617784c154cbea26490038e409a2eb862605dad49a5bc15912c7f97d7ac9fe", func := "ganglion/gangliontop.TopKnown", spec := "topKnown", unfollowed := true, recurses := true, apart := false }
def TopKnownSaid : Prop := topKnownRow.holds Try.pinned (OpenSpec.ofChange topKnownSpec)

/-- ITS FALSE NEIGHBOUR: 'it returns false'. Refute it at one input. -/
def topKnownWrong : ChangeSpec := { name := "topKnown", fn := fun _ => fun
  | [d1, d2, d3, d4, d5] => { results := [.lit (.bool false)], args := [d1, d2, d3, d4, d5] }
  | _ => none }
def TopKnownWrongFalsely : Prop := topKnownRow.holds Try.pinned (OpenSpec.ofChange topKnownWrong)

/-- 'gangliontop.TopHanded': WHATEVER THE INPUT: true; the input reads as it did. -/
def topHandedSpec : ChangeSpec := { name := "topHanded", fn := fun _ => fun
  | [d1, d2] => { results := [.lit (.bool true)], args := [d1, d2] }
  | _ => none }
def topHandedRow : OpenClaim := { program := "ytoodifpkconfcaa", sum := "e1617784c154cbea26490038e409a2eb862605dad49a5bc15912c7f97d7ac9fe", func := "ganglion/gangliontop.TopHanded", spec := "topHanded", unfollowed := true, recurses := true, apart := false }
def TopHandedSaid : Prop := topHandedRow.holds Try.pinned (OpenSpec.ofChange topHandedSpec)

/-- ITS FALSE NEIGHBOUR: 'it returns false'. Refute it at one input. -/
def topHandedWrong : ChangeSpec := { name := "topHanded", fn := fun _ => fun
  | [d1, d2] => { results := [.lit (.bool false)], args := [d1, d2] }
  | _ => none }
def TopHandedWrongFalsely : Prop := topHandedRow.holds Try.pinned (OpenSpec.ofChange topHandedWrong)

/-- 'gangliontop.TopGuarded': WHATEVER THE INPUT: true; the input reads as it did. -/
def topGuardedSpec : ChangeSpec := { name := "topGuarded", fn := fun _ => fun
  | [d] => { results := [.lit (.bool true)], args := [d] }
  | _ => none }
def topGuardedRow : OpenClaim := { program := "ytoodifpkconfcaa", sum := "e1617784c154cbea26490038e409a2eb862605dad49a5bc15912c7f97d7ac9fe", func := "ganglion/gangliontop.TopGuarded", spec := "topGuarded", unfollowed := true, recurses := true, apart := false }
def TopGuardedSaid : Prop := topGuardedRow.holds Try.pinned (OpenSpec.ofChange topGuardedSpec)

/-- ITS FALSE NEIGHBOUR: 'it returns false'. Refute it at one input. -/
def topGuardedWrong : ChangeSpec := { name := "topGuarded", fn := fun _ => fun
  | [d] => { results := [.lit (.bool false)], args := [d] }
  | _ => none }
def TopGuardedWrongFalsely : Prop := topGuardedRow.holds Try.pinned (OpenSpec.ofChange topGuardedWrong)

/- THE SECOND FORM. 'bulk': how many values and letters a reading holds, each counted each time it is reached (what is shared counts as often as it is met; a slice's spare places count too). A statement '..UptoSaid' is the law's where the arguments, and the package variables that the reading takes, are together of bulk at most 1048576: NARROWER than '..Said'. Prove '..Said' where nothing that the law and all that it calls make is longer than what came in: it says more and counts as full. Else prove '..UptoSaid'. A law counts once. -/
mutual
def uptoBulk {H : Type} : DataW H → Nat
  | .lit (.string bytes) => bytes.length + 1
  | .lit _ => 1
  | .nil => 1
  | .ptr d => uptoBulk d + 1
  | .slice elems spare => uptoBulkAll elems + uptoBulkAll spare + 1
  | .agg parts => uptoBulkAll parts + 1
  | .iface _ d => uptoBulk d + 1
  | .map entries => uptoBulkEntries entries + 1
  | .held _ => 1
def uptoBulkAll {H : Type} : List (DataW H) → Nat
  | [] => 0
  | d :: r => uptoBulk d + uptoBulkAll r
def uptoBulkEntries {H : Type} : List (Lit × DataW H) → Nat
  | [] => 0
  | x :: r => uptoBulkEntry x + uptoBulkEntries r
def uptoBulkEntry {H : Type} : Lit × DataW H → Nat
  | (.string bytes, d) => bytes.length + uptoBulk d + 1
  | (_, d) => uptoBulk d + 1
 end
def uptoSmall : (H : Type) → List (DataW H) → Bool := fun _ ds => decide (uptoBulkAll ds ≤ 1048576)
def OpenSpec.upto (s : _root_.Go.ChangeSpec) : _root_.Go.OpenSpec := { _root_.Go.OpenSpec.ofChange s with cond := some uptoSmall }

/-- 'gangliontop.TopKnown', WHERE WHAT IT READS IS OF BULK AT MOST 1048576: true; the input reads as it did. -/
def topKnownUptoRow : OpenClaim := { program := "ytoodifpkconfcaa", sum := "e1617784c154cbea26490038e409a2eb862605dad49a5bc15912c7f97d7ac9fe", func := "ganglion/gangliontop.TopKnown", spec := "topKnown", unfollowed := true, recurses := true, apart := false, narrowed := true }
def TopKnownUptoSaid : Prop := topKnownUptoRow.holds Try.pinned (OpenSpec.upto topKnownSpec)

/-- 'gangliontop.TopHanded', WHERE WHAT IT READS IS OF BULK AT MOST 1048576: true; the input reads as it did. -/
def topHandedUptoRow : OpenClaim := { program := "ytoodifpkconfcaa", sum := "e1617784c154cbea26490038e409a2eb862605dad49a5bc15912c7f97d7ac9fe", func := "ganglion/gangliontop.TopHanded", spec := "topHanded", unfollowed := true, recurses := true, apart := false, narrowed := true }
def TopHandedUptoSaid : Prop := topHandedUptoRow.holds Try.pinned (OpenSpec.upto topHandedSpec)

/-- 'gangliontop.TopGuarded', WHERE WHAT IT READS IS OF BULK AT MOST 1048576: true; the input reads as it did. -/
def topGuardedUptoRow : OpenClaim := { program := "ytoodifpkconfcaa", sum := "e1617784c154cbea26490038e409a2eb862605dad49a5bc15912c7f97d7ac9fe", func := "ganglion/gangliontop.TopGuarded", spec := "topGuarded", unfollowed := true, recurses := true, apart := false, narrowed := true }
def TopGuardedUptoSaid : Prop := topGuardedUptoRow.holds Try.pinned (OpenSpec.upto topGuardedSpec)

end Rows
end Go.Proofs.Ytoodifpkconfcaa
