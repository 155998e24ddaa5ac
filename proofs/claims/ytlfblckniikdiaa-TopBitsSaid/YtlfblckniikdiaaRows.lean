/-
  No cell of these rows narrows 'for every input' (looked for: loops, veiled, ifaces, maps, wideKeys, modest, calm, conditions, laid).
  DERIVED. THE GIVEN ROWS OF THIS SEAT. 4 by the template 'for every input the law returns true; each argument reads behind the call as it read before'; 0 by the template 'total and deterministic' (their statements: YtlfblckniikdiaaTotals.lean).
  GIVEN WITH THE SEED: the statements are not yours to turn. If you find one false, say at which input.
  Laid BY PROGRAM, IN A SANDBOX (cutbox-rows.mjs): the forced cells as the released guide's own fill.sh prints them over the translation 5dc1e3dd4526140a… (all of the seat's roots in one cut). By AI agents, Wed Nov 11 2026. No macro, syntax, notation, axiom, sorry.
-/
import Derived.Test.YtlfblckniikdiaaChecked
import GoSem.Claim
import GoSem.ClaimJoined
import GoSem.ClaimMapViews
import Derived.JoinedTies
import Derived.KernelRfl
namespace Go.Proofs.Ytlfblckniikdiaa
/- THE CELL 'sum', in the pinned program and in every row, IS THE sha256 OF THE DUMP (.gsa) THAT YtlfblckniikdiaaProg.lean LOADS. Nothing in Lean hashes anything: it is a label: what it is worth is what the hold of that sum in a sandbox is worth. -/
noncomputable def Try.pinned : Pinned := { name := "ytlfblckniikdiaa", sum := "5dc1e3dd4526140a7c630a77a68afc3029b80392d1c972baf2787985c9955142", checked := Try.checked }
namespace Rows
def none {H : Type} : Left H := { results := [], args := [] }

/-- 'gangliontop.TopDealt': WHATEVER THE INPUT: true; the input reads as it did. -/
def topDealtSpec : ChangeSpec := { name := "topDealt", fn := fun _ => fun
  | [d1, d2] => { results := [.lit (.bool true)], args := [d1, d2] }
  | _ => none }
def topDealtRow : OpenClaim := { program := "ytlfblckniikdiaa", sum := "5dc1e3dd4526140a7c630a77a68afc3029b80392d1c972baf2787985c9955142", func := "ganglion/gangliontop.TopDealt", spec := "topDealt", apart := false }
def TopDealtSaid : Prop := topDealtRow.holds Try.pinned (OpenSpec.ofChange topDealtSpec)

/-- ITS FALSE NEIGHBOUR: 'it returns false'. Refute it at one input. -/
def topDealtWrong : ChangeSpec := { name := "topDealt", fn := fun _ => fun
  | [d1, d2] => { results := [.lit (.bool false)], args := [d1, d2] }
  | _ => none }
def TopDealtWrongFalsely : Prop := topDealtRow.holds Try.pinned (OpenSpec.ofChange topDealtWrong)

/-- 'gangliontop.TopPlaces': WHATEVER THE INPUT: true; the input reads as it did. -/
def topPlacesSpec : ChangeSpec := { name := "topPlaces", fn := fun _ => fun
  | [d1, d2, d3, d4, d5] => { results := [.lit (.bool true)], args := [d1, d2, d3, d4, d5] }
  | _ => none }
def topPlacesRow : OpenClaim := { program := "ytlfblckniikdiaa", sum := "5dc1e3dd4526140a7c630a77a68afc3029b80392d1c972baf2787985c9955142", func := "ganglion/gangliontop.TopPlaces", spec := "topPlaces", apart := false }
def TopPlacesSaid : Prop := topPlacesRow.holds Try.pinned (OpenSpec.ofChange topPlacesSpec)

/-- ITS FALSE NEIGHBOUR: 'it returns false'. Refute it at one input. -/
def topPlacesWrong : ChangeSpec := { name := "topPlaces", fn := fun _ => fun
  | [d1, d2, d3, d4, d5] => { results := [.lit (.bool false)], args := [d1, d2, d3, d4, d5] }
  | _ => none }
def TopPlacesWrongFalsely : Prop := topPlacesRow.holds Try.pinned (OpenSpec.ofChange topPlacesWrong)

/-- 'gangliontop.TopMixedBack': WHATEVER THE INPUT: true; the input reads as it did. -/
def topMixedBackSpec : ChangeSpec := { name := "topMixedBack", fn := fun _ => fun
  | [d] => { results := [.lit (.bool true)], args := [d] }
  | _ => none }
def topMixedBackRow : OpenClaim := { program := "ytlfblckniikdiaa", sum := "5dc1e3dd4526140a7c630a77a68afc3029b80392d1c972baf2787985c9955142", func := "ganglion/gangliontop.TopMixedBack", spec := "topMixedBack", apart := false }
def TopMixedBackSaid : Prop := topMixedBackRow.holds Try.pinned (OpenSpec.ofChange topMixedBackSpec)

/-- ITS FALSE NEIGHBOUR: 'it returns false'. Refute it at one input. -/
def topMixedBackWrong : ChangeSpec := { name := "topMixedBack", fn := fun _ => fun
  | [d] => { results := [.lit (.bool false)], args := [d] }
  | _ => none }
def TopMixedBackWrongFalsely : Prop := topMixedBackRow.holds Try.pinned (OpenSpec.ofChange topMixedBackWrong)

/-- 'gangliontop.TopBits': WHATEVER THE INPUT: true; the input reads as it did. -/
def topBitsSpec : ChangeSpec := { name := "topBits", fn := fun _ => fun
  | [d] => { results := [.lit (.bool true)], args := [d] }
  | _ => none }
def topBitsRow : OpenClaim := { program := "ytlfblckniikdiaa", sum := "5dc1e3dd4526140a7c630a77a68afc3029b80392d1c972baf2787985c9955142", func := "ganglion/gangliontop.TopBits", spec := "topBits", unfollowed := true, recurses := true, apart := false }
def TopBitsSaid : Prop := topBitsRow.holds Try.pinned (OpenSpec.ofChange topBitsSpec)

/-- ITS FALSE NEIGHBOUR: 'it returns false'. Refute it at one input. -/
def topBitsWrong : ChangeSpec := { name := "topBits", fn := fun _ => fun
  | [d] => { results := [.lit (.bool false)], args := [d] }
  | _ => none }
def TopBitsWrongFalsely : Prop := topBitsRow.holds Try.pinned (OpenSpec.ofChange topBitsWrong)

/- THE SECOND FORM. 'bulk': how many values and letters a reading holds, each counted each time it is reached (what is shared counts as often as it is met; a slice's spare places count too). A statement '..UptoSaid' is the law's where the arguments, and the package variables that the reading takes, are together of bulk at most 1048576: NARROWER than '..Said'. Prove '..Said' where nothing that the law and all that it calls make is longer than what came in: it says more and counts as full. Else prove '..UptoSaid'. A law counts once. -/
mutual
def uptoBulk {H : Type} : DataW H → Nat
  | .lit (.string bytes) => bytes.length + 1
  | .lit _ => 1
  | .nil => 1
  | .ptr d => uptoBulk d + 1
  | .slice elems spare => uptoBulkAll elems + uptoBulkAll spare + 1
  | .agg parts => uptoBulkAll parts + 1
  | .iface _ d => uptoBulk d + 1
  | .map entries => uptoBulkEntries entries + 1
  | .held _ => 1
def uptoBulkAll {H : Type} : List (DataW H) → Nat
  | [] => 0
  | d :: r => uptoBulk d + uptoBulkAll r
def uptoBulkEntries {H : Type} : List (Lit × DataW H) → Nat
  | [] => 0
  | x :: r => uptoBulkEntry x + uptoBulkEntries r
def uptoBulkEntry {H : Type} : Lit × DataW H → Nat
  | (.string bytes, d) => bytes.length + uptoBulk d + 1
  | (_, d) => uptoBulk d + 1
 end
def uptoSmall : (H : Type) → List (DataW H) → Bool := fun _ ds => decide (uptoBulkAll ds ≤ 1048576)
def OpenSpec.upto (s : _root_.Go.ChangeSpec) : _root_.Go.OpenSpec := { _root_.Go.OpenSpec.ofChange s with cond := some uptoSmall }

/-- 'gangliontop.TopDealt', WHERE WHAT IT READS IS OF BULK AT MOST 1048576: true; the input reads as it did. -/
def topDealtUptoRow : OpenClaim := { program := "ytlfblckniikdiaa", sum := "5dc1e3dd4526140a7c630a77a68afc3029b80392d1c972baf2787985c9955142", func := "ganglion/gangliontop.TopDealt", spec := "topDealt", apart := false, narrowed := true }
def TopDealtUptoSaid : Prop := topDealtUptoRow.holds Try.pinned (OpenSpec.upto topDealtSpec)

/-- 'gangliontop.TopPlaces', WHERE WHAT IT READS IS OF BULK AT MOST 1048576: true; the input reads as it did. -/
def topPlacesUptoRow : OpenClaim := { program := "ytlfblckniikdiaa", sum := "5dc1e3dd4526140a7c630a77a68afc3029b80392d1c972baf2787985c9955142", func := "ganglion/gangliontop.TopPlaces", spec := "topPlaces", apart := false, narrowed := true }
def TopPlacesUptoSaid : Prop := topPlacesUptoRow.holds Try.pinned (OpenSpec.upto topPlacesSpec)

/-- 'gangliontop.TopMixedBack', WHERE WHAT IT READS IS OF BULK AT MOST 1048576: true; the input reads as it did. -/
def topMixedBackUptoRow : OpenClaim := { program := "ytlfblckniikdiaa", sum := "5dc1e3dd4526140a7c630a77a68afc3029b80392d1c972baf2787985c9955142", func := "ganglion/gangliontop.TopMixedBack", spec := "topMixedBack", apart := false, narrowed := true }
def TopMixedBackUptoSaid : Prop := topMixedBackUptoRow.holds Try.pinned (OpenSpec.upto topMixedBackSpec)

/-- 'gangliontop.TopBits', WHERE WHAT IT READS IS OF BULK AT MOST 1048576: true; the input reads as it did. -/
def topBitsUptoRow : OpenClaim := { program := "ytlfblckniikdiaa", sum := "5dc1e3dd4526140a7c630a77a68afc3029b80392d1c972baf2787985c9955142", func := "ganglion/gangliontop.TopBits", spec := "topBits", unfollowed := true, recurses := true, apart := false, narrowed := true }
def TopBitsUptoSaid : Prop := topBitsUptoRow.holds Try.pinned (OpenSpec.upto topBitsSpec)

end Rows
end Go.Proofs.Ytlfblckniikdiaa
