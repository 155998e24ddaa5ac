/-
  No cell of these rows narrows 'for every input' (looked for: loops, veiled, ifaces, maps, wideKeys, modest, calm, conditions, laid).
  DERIVED. THE GIVEN ROWS OF THIS SEAT. 4 by the template 'for every input the law returns true; each argument reads behind the call as it read before'; 0 by the template 'total and deterministic' (their statements: YtpcbfoddlpgdjaaTotals.lean).
  GIVEN WITH THE SEED: the statements are not yours to turn. If you find one false, say at which input.
  Laid BY PROGRAM, IN A SANDBOX (cutbox-rows.mjs): the forced cells as the released guide's own fill.sh prints them over the translation 5323dd273fb8420c… (all of the seat's roots in one cut). By AI agents, Wed Nov 11 2026. No macro, syntax, notation, axiom, sorry.
-/
import Derived.Test.YtpcbfoddlpgdjaaChecked
import GoSem.Claim
import GoSem.ClaimJoined
import GoSem.ClaimMapViews
import Derived.JoinedTies
import Derived.KernelRfl
namespace Go.Proofs.Ytpcbfoddlpgdjaa
/- THE CELL 'sum', in the pinned program and in every row, IS THE sha256 OF THE DUMP (.gsa) THAT YtpcbfoddlpgdjaaProg.lean LOADS. Nothing in Lean hashes anything: it is a label: what it is worth is what the hold of that sum in a sandbox is worth. -/
noncomputable def Try.pinned : Pinned := { name := "ytpcbfoddlpgdjaa", sum := "5323dd273fb8420c403ea4e5b85dce54346b87f506e57a1e09ddf5d0aabc5e11", checked := Try.checked }
namespace Rows
def none {H : Type} : Left H := { results := [], args := [] }

/-- 'gangliontop.TopHalves': WHATEVER THE INPUT: true; the input reads as it did. -/
def topHalvesSpec : ChangeSpec := { name := "topHalves", fn := fun _ => fun
  | [d1, d2, d3, d4] => { results := [.lit (.bool true)], args := [d1, d2, d3, d4] }
  | _ => none }
def topHalvesRow : OpenClaim := { program := "ytpcbfoddlpgdjaa", sum := "5323dd273fb8420c403ea4e5b85dce54346b87f506e57a1e09ddf5d0aabc5e11", func := "ganglion/gangliontop.TopHalves", spec := "topHalves", inPlace := ["math/bits.Add64"], unfollowed := true, recurses := true, apart := false }
def TopHalvesSaid : Prop := topHalvesRow.holds Try.pinned (OpenSpec.ofChange topHalvesSpec)

/-- ITS FALSE NEIGHBOUR: 'it returns false'. Refute it at one input. -/
def topHalvesWrong : ChangeSpec := { name := "topHalves", fn := fun _ => fun
  | [d1, d2, d3, d4] => { results := [.lit (.bool false)], args := [d1, d2, d3, d4] }
  | _ => none }
def TopHalvesWrongFalsely : Prop := topHalvesRow.holds Try.pinned (OpenSpec.ofChange topHalvesWrong)

/-- 'gangliontop.TopTurned': WHATEVER THE INPUT: true; the input reads as it did. -/
def topTurnedSpec : ChangeSpec := { name := "topTurned", fn := fun _ => fun
  | [d1, d2, d3, d4] => { results := [.lit (.bool true)], args := [d1, d2, d3, d4] }
  | _ => none }
def topTurnedRow : OpenClaim := { program := "ytpcbfoddlpgdjaa", sum := "5323dd273fb8420c403ea4e5b85dce54346b87f506e57a1e09ddf5d0aabc5e11", func := "ganglion/gangliontop.TopTurned", spec := "topTurned", inPlace := ["math/bits.Add64"], unfollowed := true, recurses := true, apart := false }
def TopTurnedSaid : Prop := topTurnedRow.holds Try.pinned (OpenSpec.ofChange topTurnedSpec)

/-- ITS FALSE NEIGHBOUR: 'it returns false'. Refute it at one input. -/
def topTurnedWrong : ChangeSpec := { name := "topTurned", fn := fun _ => fun
  | [d1, d2, d3, d4] => { results := [.lit (.bool false)], args := [d1, d2, d3, d4] }
  | _ => none }
def TopTurnedWrongFalsely : Prop := topTurnedRow.holds Try.pinned (OpenSpec.ofChange topTurnedWrong)

/-- 'gangliontop.TopPeeled': WHATEVER THE INPUT: true; the input reads as it did. -/
def topPeeledSpec : ChangeSpec := { name := "topPeeled", fn := fun _ => fun
  | [d1, d2] => { results := [.lit (.bool true)], args := [d1, d2] }
  | _ => none }
def topPeeledRow : OpenClaim := { program := "ytpcbfoddlpgdjaa", sum := "5323dd273fb8420c403ea4e5b85dce54346b87f506e57a1e09ddf5d0aabc5e11", func := "ganglion/gangliontop.TopPeeled", spec := "topPeeled", inPlace := ["math/bits.Add64"], unfollowed := true, recurses := true, apart := false }
def TopPeeledSaid : Prop := topPeeledRow.holds Try.pinned (OpenSpec.ofChange topPeeledSpec)

/-- ITS FALSE NEIGHBOUR: 'it returns false'. Refute it at one input. -/
def topPeeledWrong : ChangeSpec := { name := "topPeeled", fn := fun _ => fun
  | [d1, d2] => { results := [.lit (.bool false)], args := [d1, d2] }
  | _ => none }
def TopPeeledWrongFalsely : Prop := topPeeledRow.holds Try.pinned (OpenSpec.ofChange topPeeledWrong)

/-- 'gangliontop.TopApart': WHATEVER THE INPUT: true; the input reads as it did. -/
def topApartSpec : ChangeSpec := { name := "topApart", fn := fun _ => fun
  | [d1, d2, d3] => { results := [.lit (.bool true)], args := [d1, d2, d3] }
  | _ => none }
def topApartRow : OpenClaim := { program := "ytpcbfoddlpgdjaa", sum := "5323dd273fb8420c403ea4e5b85dce54346b87f506e57a1e09ddf5d0aabc5e11", func := "ganglion/gangliontop.TopApart", spec := "topApart", inPlace := ["math/bits.Add64"], unfollowed := true, recurses := true, apart := false }
def TopApartSaid : Prop := topApartRow.holds Try.pinned (OpenSpec.ofChange topApartSpec)

/-- ITS FALSE NEIGHBOUR: 'it returns false'. Refute it at one input. -/
def topApartWrong : ChangeSpec := { name := "topApart", fn := fun _ => fun
  | [d1, d2, d3] => { results := [.lit (.bool false)], args := [d1, d2, d3] }
  | _ => none }
def TopApartWrongFalsely : Prop := topApartRow.holds Try.pinned (OpenSpec.ofChange topApartWrong)

/- THE SECOND FORM. 'bulk': how many values and letters a reading holds, each counted each time it is reached (what is shared counts as often as it is met; a slice's spare places count too). A statement '..UptoSaid' is the law's where the arguments, and the package variables that the reading takes, are together of bulk at most 1048576: NARROWER than '..Said'. Prove '..Said' where nothing that the law and all that it calls make is longer than what came in: it says more and counts as full. Else prove '..UptoSaid'. A law counts once. -/
mutual
def uptoBulk {H : Type} : DataW H → Nat
  | .lit (.string bytes) => bytes.length + 1
  | .lit _ => 1
  | .nil => 1
  | .ptr d => uptoBulk d + 1
  | .slice elems spare => uptoBulkAll elems + uptoBulkAll spare + 1
  | .agg parts => uptoBulkAll parts + 1
  | .iface _ d => uptoBulk d + 1
  | .map entries => uptoBulkEntries entries + 1
  | .held _ => 1
def uptoBulkAll {H : Type} : List (DataW H) → Nat
  | [] => 0
  | d :: r => uptoBulk d + uptoBulkAll r
def uptoBulkEntries {H : Type} : List (Lit × DataW H) → Nat
  | [] => 0
  | x :: r => uptoBulkEntry x + uptoBulkEntries r
def uptoBulkEntry {H : Type} : Lit × DataW H → Nat
  | (.string bytes, d) => bytes.length + uptoBulk d + 1
  | (_, d) => uptoBulk d + 1
 end
def uptoSmall : (H : Type) → List (DataW H) → Bool := fun _ ds => decide (uptoBulkAll ds ≤ 1048576)
def OpenSpec.upto (s : _root_.Go.ChangeSpec) : _root_.Go.OpenSpec := { _root_.Go.OpenSpec.ofChange s with cond := some uptoSmall }

/-- 'gangliontop.TopHalves', WHERE WHAT IT READS IS OF BULK AT MOST 1048576: true; the input reads as it did. -/
def topHalvesUptoRow : OpenClaim := { program := "ytpcbfoddlpgdjaa", sum := "5323dd273fb8420c403ea4e5b85dce54346b87f506e57a1e09ddf5d0aabc5e11", func := "ganglion/gangliontop.TopHalves", spec := "topHalves", inPlace := ["math/bits.Add64"], unfollowed := true, recurses := true, apart := false, narrowed := true }
def TopHalvesUptoSaid : Prop := topHalvesUptoRow.holds Try.pinned (OpenSpec.upto topHalvesSpec)

/-- 'gangliontop.TopTurned', WHERE WHAT IT READS IS OF BULK AT MOST 1048576: true; the input reads as it did. -/
def topTurnedUptoRow : OpenClaim := { program := "ytpcbfoddlpgdjaa", sum := "5323dd273fb8420c403ea4e5b85dce54346b87f506e57a1e09ddf5d0aabc5e11", func := "ganglion/gangliontop.TopTurned", spec := "topTurned", inPlace := ["math/bits.Add64"], unfollowed := true, recurses := true, apart := false, narrowed := true }
def TopTurnedUptoSaid : Prop := topTurnedUptoRow.holds Try.pinned (OpenSpec.upto topTurnedSpec)

/-- 'gangliontop.TopPeeled', WHERE WHAT IT READS IS OF BULK AT MOST 1048576: true; the input reads as it did. -/
def topPeeledUptoRow : OpenClaim := { program := "ytpcbfoddlpgdjaa", sum := "5323dd273fb8420c403ea4e5b85dce54346b87f506e57a1e09ddf5d0aabc5e11", func := "ganglion/gangliontop.TopPeeled", spec := "topPeeled", inPlace := ["math/bits.Add64"], unfollowed := true, recurses := true, apart := false, narrowed := true }
def TopPeeledUptoSaid : Prop := topPeeledUptoRow.holds Try.pinned (OpenSpec.upto topPeeledSpec)

/-- 'gangliontop.TopApart', WHERE WHAT IT READS IS OF BULK AT MOST 1048576: true; the input reads as it did. -/
def topApartUptoRow : OpenClaim := { program := "ytpcbfoddlpgdjaa", sum := "5323dd273fb8420c403ea4e5b85dce54346b87f506e57a1e09ddf5d0aabc5e11", func := "ganglion/gangliontop.TopApart", spec := "topApart", inPlace := ["math/bits.Add64"], unfollowed := true, recurses := true, apart := false, narrowed := true }
def TopApartUptoSaid : Prop := topApartUptoRow.holds Try.pinned (OpenSpec.upto topApartSpec)

end Rows
end Go.Proofs.Ytpcbfoddlpgdjaa
