/-
  No cell of these rows narrows 'for every input' (looked for: loops, veiled, ifaces, maps, wideKeys, modest, calm, conditions, laid).
  DERIVED. THE GIVEN ROWS OF THIS SEAT. 9 by the template 'for every input the law returns true; each argument reads behind the call as it read before'; 0 by the template 'total and deterministic' (their statements: YtknnalaemndnaaaTotals.lean).
  GIVEN WITH THE SEED: the statements are not yours to turn. If you find one false, say at which input.
  Laid BY PROGRAM, IN A SANDBOX (cutbox-rows.mjs): the forced cells as the released guide's own fill.sh prints them over the translation 26400ce85c23165f… (all of the seat's roots in one cut). By AI agents, Wed Nov 11 2026. No macro, syntax, notation, axiom, sorry.
-/
import Derived.Test.YtknnalaemndnaaaChecked
import GoSem.Claim
import GoSem.ClaimJoined
import GoSem.ClaimMapViews
import Derived.JoinedTies
import Derived.KernelRfl
namespace Go.Proofs.Ytknnalaemndnaaa
/- THE CELL 'sum', in the pinned program and in every row, IS THE sha256 OF THE DUMP (.gsa) THAT YtknnalaemndnaaaProg.lean LOADS. Nothing in Lean hashes anything: it is a label: what it is worth is what the hold of that sum in a sandbox is worth. -/
noncomputable def Try.pinned : Pinned := { name := "ytknnalaemndnaaa", sum := "26400ce85c23165f1c25a01dc03c742c050d9964c07b6b4015132fea5fb463c1", checked := Try.checked }
namespace Rows
def none {H : Type} : Left H := { results := [], args := [] }

/-- 'ganglionlaw03.RngTells': WHATEVER THE INPUT: true; the input reads as it did. -/
def rngTellsSpec : ChangeSpec := { name := "rngTells", fn := fun _ => fun
  | [d1, d2, d3, d4] => { results := [.lit (.bool true)], args := [d1, d2, d3, d4] }
  | _ => none }
def rngTellsRow : OpenClaim := { program := "ytknnalaemndnaaa", sum := "26400ce85c23165f1c25a01dc03c742c050d9964c07b6b4015132fea5fb463c1", func := "ganglion/ganglionlaw03.RngTells", spec := "rngTells", apart := false }
def RngTellsSaid : Prop := rngTellsRow.holds Try.pinned (OpenSpec.ofChange rngTellsSpec)

/-- ITS FALSE NEIGHBOUR: 'it returns false'. Refute it at one input. -/
def rngTellsWrong : ChangeSpec := { name := "rngTells", fn := fun _ => fun
  | [d1, d2, d3, d4] => { results := [.lit (.bool false)], args := [d1, d2, d3, d4] }
  | _ => none }
def RngTellsWrongFalsely : Prop := rngTellsRow.holds Try.pinned (OpenSpec.ofChange rngTellsWrong)

/-- 'ganglionlaw03.RngBack': WHATEVER THE INPUT: true; the input reads as it did. -/
def rngBackSpec : ChangeSpec := { name := "rngBack", fn := fun _ => fun
  | [d1, d2, d3] => { results := [.lit (.bool true)], args := [d1, d2, d3] }
  | _ => none }
def rngBackRow : OpenClaim := { program := "ytknnalaemndnaaa", sum := "26400ce85c23165f1c25a01dc03c742c050d9964c07b6b4015132fea5fb463c1", func := "ganglion/ganglionlaw03.RngBack", spec := "rngBack", apart := false }
def RngBackSaid : Prop := rngBackRow.holds Try.pinned (OpenSpec.ofChange rngBackSpec)

/-- ITS FALSE NEIGHBOUR: 'it returns false'. Refute it at one input. -/
def rngBackWrong : ChangeSpec := { name := "rngBack", fn := fun _ => fun
  | [d1, d2, d3] => { results := [.lit (.bool false)], args := [d1, d2, d3] }
  | _ => none }
def RngBackWrongFalsely : Prop := rngBackRow.holds Try.pinned (OpenSpec.ofChange rngBackWrong)

/-- 'ganglionlaw03.RngSpread': WHATEVER THE INPUT: true; the input reads as it did. -/
def rngSpreadSpec : ChangeSpec := { name := "rngSpread", fn := fun _ => fun
  | [d1, d2, d3, d4] => { results := [.lit (.bool true)], args := [d1, d2, d3, d4] }
  | _ => none }
def rngSpreadRow : OpenClaim := { program := "ytknnalaemndnaaa", sum := "26400ce85c23165f1c25a01dc03c742c050d9964c07b6b4015132fea5fb463c1", func := "ganglion/ganglionlaw03.RngSpread", spec := "rngSpread", apart := false }
def RngSpreadSaid : Prop := rngSpreadRow.holds Try.pinned (OpenSpec.ofChange rngSpreadSpec)

/-- ITS FALSE NEIGHBOUR: 'it returns false'. Refute it at one input. -/
def rngSpreadWrong : ChangeSpec := { name := "rngSpread", fn := fun _ => fun
  | [d1, d2, d3, d4] => { results := [.lit (.bool false)], args := [d1, d2, d3, d4] }
  | _ => none }
def RngSpreadWrongFalsely : Prop := rngSpreadRow.holds Try.pinned (OpenSpec.ofChange rngSpreadWrong)

/-- 'ganglionlaw04.LittleTells': WHATEVER THE INPUT: true; the input reads as it did. -/
def littleTellsSpec : ChangeSpec := { name := "littleTells", fn := fun _ => fun
  | [d1, d2, d3, d4] => { results := [.lit (.bool true)], args := [d1, d2, d3, d4] }
  | _ => none }
def littleTellsRow : OpenClaim := { program := "ytknnalaemndnaaa", sum := "26400ce85c23165f1c25a01dc03c742c050d9964c07b6b4015132fea5fb463c1", func := "ganglion/ganglionlaw04.LittleTells", spec := "littleTells", apart := false }
def LittleTellsSaid : Prop := littleTellsRow.holds Try.pinned (OpenSpec.ofChange littleTellsSpec)

/-- ITS FALSE NEIGHBOUR: 'it returns false'. Refute it at one input. -/
def littleTellsWrong : ChangeSpec := { name := "littleTells", fn := fun _ => fun
  | [d1, d2, d3, d4] => { results := [.lit (.bool false)], args := [d1, d2, d3, d4] }
  | _ => none }
def LittleTellsWrongFalsely : Prop := littleTellsRow.holds Try.pinned (OpenSpec.ofChange littleTellsWrong)

/-- 'ganglionlaw04.LittleBack': WHATEVER THE INPUT: true; the input reads as it did. -/
def littleBackSpec : ChangeSpec := { name := "littleBack", fn := fun _ => fun
  | [d1, d2, d3] => { results := [.lit (.bool true)], args := [d1, d2, d3] }
  | _ => none }
def littleBackRow : OpenClaim := { program := "ytknnalaemndnaaa", sum := "26400ce85c23165f1c25a01dc03c742c050d9964c07b6b4015132fea5fb463c1", func := "ganglion/ganglionlaw04.LittleBack", spec := "littleBack", apart := false }
def LittleBackSaid : Prop := littleBackRow.holds Try.pinned (OpenSpec.ofChange littleBackSpec)

/-- ITS FALSE NEIGHBOUR: 'it returns false'. Refute it at one input. -/
def littleBackWrong : ChangeSpec := { name := "littleBack", fn := fun _ => fun
  | [d1, d2, d3] => { results := [.lit (.bool false)], args := [d1, d2, d3] }
  | _ => none }
def LittleBackWrongFalsely : Prop := littleBackRow.holds Try.pinned (OpenSpec.ofChange littleBackWrong)

/-- 'ganglionlaw02.PackTells': WHATEVER THE INPUT: true; the input reads as it did. -/
def packTellsSpec : ChangeSpec := { name := "packTells", fn := fun _ => fun
  | [d1, d2, d3, d4] => { results := [.lit (.bool true)], args := [d1, d2, d3, d4] }
  | _ => none }
def packTellsRow : OpenClaim := { program := "ytknnalaemndnaaa", sum := "26400ce85c23165f1c25a01dc03c742c050d9964c07b6b4015132fea5fb463c1", func := "ganglion/ganglionlaw02.PackTells", spec := "packTells", apart := false }
def PackTellsSaid : Prop := packTellsRow.holds Try.pinned (OpenSpec.ofChange packTellsSpec)

/-- ITS FALSE NEIGHBOUR: 'it returns false'. Refute it at one input. -/
def packTellsWrong : ChangeSpec := { name := "packTells", fn := fun _ => fun
  | [d1, d2, d3, d4] => { results := [.lit (.bool false)], args := [d1, d2, d3, d4] }
  | _ => none }
def PackTellsWrongFalsely : Prop := packTellsRow.holds Try.pinned (OpenSpec.ofChange packTellsWrong)

/-- 'ganglionlaw02.PackNames': WHATEVER THE INPUT: true; the input reads as it did. -/
def packNamesSpec : ChangeSpec := { name := "packNames", fn := fun _ => fun
  | [d1, d2, d3, d4] => { results := [.lit (.bool true)], args := [d1, d2, d3, d4] }
  | _ => none }
def packNamesRow : OpenClaim := { program := "ytknnalaemndnaaa", sum := "26400ce85c23165f1c25a01dc03c742c050d9964c07b6b4015132fea5fb463c1", func := "ganglion/ganglionlaw02.PackNames", spec := "packNames", apart := false }
def PackNamesSaid : Prop := packNamesRow.holds Try.pinned (OpenSpec.ofChange packNamesSpec)

/-- ITS FALSE NEIGHBOUR: 'it returns false'. Refute it at one input. -/
def packNamesWrong : ChangeSpec := { name := "packNames", fn := fun _ => fun
  | [d1, d2, d3, d4] => { results := [.lit (.bool false)], args := [d1, d2, d3, d4] }
  | _ => none }
def PackNamesWrongFalsely : Prop := packNamesRow.holds Try.pinned (OpenSpec.ofChange packNamesWrong)

/-- 'ganglionlaw02.PackBack': WHATEVER THE INPUT: true; the input reads as it did. -/
def packBackSpec : ChangeSpec := { name := "packBack", fn := fun _ => fun
  | [d1, d2, d3, d4, d5] => { results := [.lit (.bool true)], args := [d1, d2, d3, d4, d5] }
  | _ => none }
def packBackRow : OpenClaim := { program := "ytknnalaemndnaaa", sum := "26400ce85c23165f1c25a01dc03c742c050d9964c07b6b4015132fea5fb463c1", func := "ganglion/ganglionlaw02.PackBack", spec := "packBack", apart := false }
def PackBackSaid : Prop := packBackRow.holds Try.pinned (OpenSpec.ofChange packBackSpec)

/-- ITS FALSE NEIGHBOUR: 'it returns false'. Refute it at one input. -/
def packBackWrong : ChangeSpec := { name := "packBack", fn := fun _ => fun
  | [d1, d2, d3, d4, d5] => { results := [.lit (.bool false)], args := [d1, d2, d3, d4, d5] }
  | _ => none }
def PackBackWrongFalsely : Prop := packBackRow.holds Try.pinned (OpenSpec.ofChange packBackWrong)

/-- 'ganglionlaw20.EpochPlays': WHATEVER THE INPUT: true; the input reads as it did. -/
def epochPlaysSpec : ChangeSpec := { name := "epochPlays", fn := fun _ => fun
  | [d1, d2] => { results := [.lit (.bool true)], args := [d1, d2] }
  | _ => none }
def epochPlaysRow : OpenClaim := { program := "ytknnalaemndnaaa", sum := "26400ce85c23165f1c25a01dc03c742c050d9964c07b6b4015132fea5fb463c1", func := "ganglion/ganglionlaw20.EpochPlays", spec := "epochPlays", unfollowed := true, recurses := true, apart := false }
def EpochPlaysSaid : Prop := epochPlaysRow.holds Try.pinned (OpenSpec.ofChange epochPlaysSpec)

/-- ITS FALSE NEIGHBOUR: 'it returns false'. Refute it at one input. -/
def epochPlaysWrong : ChangeSpec := { name := "epochPlays", fn := fun _ => fun
  | [d1, d2] => { results := [.lit (.bool false)], args := [d1, d2] }
  | _ => none }
def EpochPlaysWrongFalsely : Prop := epochPlaysRow.holds Try.pinned (OpenSpec.ofChange epochPlaysWrong)

/- THE SECOND FORM. 'bulk': how many values and letters a reading holds, each counted each time it is reached (what is shared counts as often as it is met; a slice's spare places count too). A statement '..UptoSaid' is the law's where the arguments, and the package variables that the reading takes, are together of bulk at most 1048576: NARROWER than '..Said'. Prove '..Said' where nothing that the law and all that it calls make is longer than what came in: it says more and counts as full. Else prove '..UptoSaid'. A law counts once. -/
mutual
def uptoBulk {H : Type} : DataW H → Nat
  | .lit (.string bytes) => bytes.length + 1
  | .lit _ => 1
  | .nil => 1
  | .ptr d => uptoBulk d + 1
  | .slice elems spare => uptoBulkAll elems + uptoBulkAll spare + 1
  | .agg parts => uptoBulkAll parts + 1
  | .iface _ d => uptoBulk d + 1
  | .map entries => uptoBulkEntries entries + 1
  | .held _ => 1
def uptoBulkAll {H : Type} : List (DataW H) → Nat
  | [] => 0
  | d :: r => uptoBulk d + uptoBulkAll r
def uptoBulkEntries {H : Type} : List (Lit × DataW H) → Nat
  | [] => 0
  | x :: r => uptoBulkEntry x + uptoBulkEntries r
def uptoBulkEntry {H : Type} : Lit × DataW H → Nat
  | (.string bytes, d) => bytes.length + uptoBulk d + 1
  | (_, d) => uptoBulk d + 1
 end
def uptoSmall : (H : Type) → List (DataW H) → Bool := fun _ ds => decide (uptoBulkAll ds ≤ 1048576)
def OpenSpec.upto (s : _root_.Go.ChangeSpec) : _root_.Go.OpenSpec := { _root_.Go.OpenSpec.ofChange s with cond := some uptoSmall }

/-- 'ganglionlaw03.RngTells', WHERE WHAT IT READS IS OF BULK AT MOST 1048576: true; the input reads as it did. -/
def rngTellsUptoRow : OpenClaim := { program := "ytknnalaemndnaaa", sum := "26400ce85c23165f1c25a01dc03c742c050d9964c07b6b4015132fea5fb463c1", func := "ganglion/ganglionlaw03.RngTells", spec := "rngTells", apart := false, narrowed := true }
def RngTellsUptoSaid : Prop := rngTellsUptoRow.holds Try.pinned (OpenSpec.upto rngTellsSpec)

/-- 'ganglionlaw03.RngBack', WHERE WHAT IT READS IS OF BULK AT MOST 1048576: true; the input reads as it did. -/
def rngBackUptoRow : OpenClaim := { program := "ytknnalaemndnaaa", sum := "26400ce85c23165f1c25a01dc03c742c050d9964c07b6b4015132fea5fb463c1", func := "ganglion/ganglionlaw03.RngBack", spec := "rngBack", apart := false, narrowed := true }
def RngBackUptoSaid : Prop := rngBackUptoRow.holds Try.pinned (OpenSpec.upto rngBackSpec)

/-- 'ganglionlaw03.RngSpread', WHERE WHAT IT READS IS OF BULK AT MOST 1048576: true; the input reads as it did. -/
def rngSpreadUptoRow : OpenClaim := { program := "ytknnalaemndnaaa", sum := "26400ce85c23165f1c25a01dc03c742c050d9964c07b6b4015132fea5fb463c1", func := "ganglion/ganglionlaw03.RngSpread", spec := "rngSpread", apart := false, narrowed := true }
def RngSpreadUptoSaid : Prop := rngSpreadUptoRow.holds Try.pinned (OpenSpec.upto rngSpreadSpec)

/-- 'ganglionlaw04.LittleTells', WHERE WHAT IT READS IS OF BULK AT MOST 1048576: true; the input reads as it did. -/
def littleTellsUptoRow : OpenClaim := { program := "ytknnalaemndnaaa", sum := "26400ce85c23165f1c25a01dc03c742c050d9964c07b6b4015132fea5fb463c1", func := "ganglion/ganglionlaw04.LittleTells", spec := "littleTells", apart := false, narrowed := true }
def LittleTellsUptoSaid : Prop := littleTellsUptoRow.holds Try.pinned (OpenSpec.upto littleTellsSpec)

/-- 'ganglionlaw04.LittleBack', WHERE WHAT IT READS IS OF BULK AT MOST 1048576: true; the input reads as it did. -/
def littleBackUptoRow : OpenClaim := { program := "ytknnalaemndnaaa", sum := "26400ce85c23165f1c25a01dc03c742c050d9964c07b6b4015132fea5fb463c1", func := "ganglion/ganglionlaw04.LittleBack", spec := "littleBack", apart := false, narrowed := true }
def LittleBackUptoSaid : Prop := littleBackUptoRow.holds Try.pinned (OpenSpec.upto littleBackSpec)

/-- 'ganglionlaw02.PackTells', WHERE WHAT IT READS IS OF BULK AT MOST 1048576: true; the input reads as it did. -/
def packTellsUptoRow : OpenClaim := { program := "ytknnalaemndnaaa", sum := "26400ce85c23165f1c25a01dc03c742c050d9964c07b6b4015132fea5fb463c1", func := "ganglion/ganglionlaw02.PackTells", spec := "packTells", apart := false, narrowed := true }
def PackTellsUptoSaid : Prop := packTellsUptoRow.holds Try.pinned (OpenSpec.upto packTellsSpec)

/-- 'ganglionlaw02.PackNames', WHERE WHAT IT READS IS OF BULK AT MOST 1048576: true; the input reads as it did. -/
def packNamesUptoRow : OpenClaim := { program := "ytknnalaemndnaaa", sum := "26400ce85c23165f1c25a01dc03c742c050d9964c07b6b4015132fea5fb463c1", func := "ganglion/ganglionlaw02.PackNames", spec := "packNames", apart := false, narrowed := true }
def PackNamesUptoSaid : Prop := packNamesUptoRow.holds Try.pinned (OpenSpec.upto packNamesSpec)

/-- 'ganglionlaw02.PackBack', WHERE WHAT IT READS IS OF BULK AT MOST 1048576: true; the input reads as it did. -/
def packBackUptoRow : OpenClaim := { program := "ytknnalaemndnaaa", sum := "26400ce85c23165f1c25a01dc03c742c050d9964c07b6b4015132fea5fb463c1", func := "ganglion/ganglionlaw02.PackBack", spec := "packBack", apart := false, narrowed := true }
def PackBackUptoSaid : Prop := packBackUptoRow.holds Try.pinned (OpenSpec.upto packBackSpec)

/-- 'ganglionlaw20.EpochPlays', WHERE WHAT IT READS IS OF BULK AT MOST 1048576: true; the input reads as it did. -/
def epochPlaysUptoRow : OpenClaim := { program := "ytknnalaemndnaaa", sum := "26400ce85c23165f1c25a01dc03c742c050d9964c07b6b4015132fea5fb463c1", func := "ganglion/ganglionlaw20.EpochPlays", spec := "epochPlays", unfollowed := true, recurses := true, apart := false, narrowed := true }
def EpochPlaysUptoSaid : Prop := epochPlaysUptoRow.holds Try.pinned (OpenSpec.upto epochPlaysSpec)

end Rows
end Go.Proofs.Ytknnalaemndnaaa
