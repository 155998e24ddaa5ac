/-
  No cell of these rows narrows 'for every input' (looked for: loops, veiled, ifaces, maps, wideKeys, modest, calm, conditions, laid).
  DERIVED. THE GIVEN ROWS OF THIS SEAT. 12 by the template 'for every input the law returns true; each argument reads behind the call as it read before'; 0 by the template 'total and deterministic' (their statements: YtbhdkimjjopaaaaTotals.lean).
  GIVEN WITH THE SEED: the statements are not yours to turn. If you find one false, say at which input.
  Laid BY PROGRAM, IN A SANDBOX (cutbox-rows.mjs): the forced cells as the released guide's own fill.sh prints them over the translation cf216eb4a63b9e76… (all of the seat's roots in one cut). By AI agents, Wed Nov 11 2026. No macro, syntax, notation, axiom, sorry.
-/
import Derived.Test.YtbhdkimjjopaaaaChecked
import GoSem.Claim
import GoSem.ClaimJoined
import GoSem.ClaimMapViews
import Derived.JoinedTies
import Derived.KernelRfl
namespace Go.Proofs.Ytbhdkimjjopaaaa
/- THE CELL 'sum', in the pinned program and in every row, IS THE sha256 OF THE DUMP (.gsa) THAT YtbhdkimjjopaaaaProg.lean LOADS. Nothing in Lean hashes anything: it is a label: what it is worth is what the hold of that sum in a sandbox is worth. -/
noncomputable def Try.pinned : Pinned := { name := "ytbhdkimjjopaaaa", sum := "cf216eb4a63b9e76df3352b1bb878392b4c048fcfea6029f4fb7ab7713ad10ee", checked := Try.checked }
namespace Rows
def none {H : Type} : Left H := { results := [], args := [] }

/-- 'gangliontop.TopCutDist': WHATEVER THE INPUT: true; the input reads as it did. -/
def topCutDistSpec : ChangeSpec := { name := "topCutDist", fn := fun _ => fun
  | [d1, d2, d3] => { results := [.lit (.bool true)], args := [d1, d2, d3] }
  | _ => none }
def topCutDistRow : OpenClaim := { program := "ytbhdkimjjopaaaa", sum := "cf216eb4a63b9e76df3352b1bb878392b4c048fcfea6029f4fb7ab7713ad10ee", func := "ganglion/gangliontop.TopCutDist", spec := "topCutDist", inPlace := ["math/bits.Add64"], unfollowed := true, recurses := true, apart := false }
def TopCutDistSaid : Prop := topCutDistRow.holds Try.pinned (OpenSpec.ofChange topCutDistSpec)

/-- ITS FALSE NEIGHBOUR: 'it returns false'. Refute it at one input. -/
def topCutDistWrong : ChangeSpec := { name := "topCutDist", fn := fun _ => fun
  | [d1, d2, d3] => { results := [.lit (.bool false)], args := [d1, d2, d3] }
  | _ => none }
def TopCutDistWrongFalsely : Prop := topCutDistRow.holds Try.pinned (OpenSpec.ofChange topCutDistWrong)

/-- 'ganglionlaw20.EpochSafe': WHATEVER THE INPUT: true; the input reads as it did. -/
def epochSafeSpec : ChangeSpec := { name := "epochSafe", fn := fun _ => fun
  | [d1, d2] => { results := [.lit (.bool true)], args := [d1, d2] }
  | _ => none }
def epochSafeRow : OpenClaim := { program := "ytbhdkimjjopaaaa", sum := "cf216eb4a63b9e76df3352b1bb878392b4c048fcfea6029f4fb7ab7713ad10ee", func := "ganglion/ganglionlaw20.EpochSafe", spec := "epochSafe", unfollowed := true, recurses := true, apart := false }
def EpochSafeSaid : Prop := epochSafeRow.holds Try.pinned (OpenSpec.ofChange epochSafeSpec)

/-- ITS FALSE NEIGHBOUR: 'it returns false'. Refute it at one input. -/
def epochSafeWrong : ChangeSpec := { name := "epochSafe", fn := fun _ => fun
  | [d1, d2] => { results := [.lit (.bool false)], args := [d1, d2] }
  | _ => none }
def EpochSafeWrongFalsely : Prop := epochSafeRow.holds Try.pinned (OpenSpec.ofChange epochSafeWrong)

/-- 'ganglionlaw28.GetterAsks': WHATEVER THE INPUT: true; the input reads as it did. -/
def getterAsksSpec : ChangeSpec := { name := "getterAsks", fn := fun _ => fun
  | [d1, d2, d3] => { results := [.lit (.bool true)], args := [d1, d2, d3] }
  | _ => none }
def getterAsksRow : OpenClaim := { program := "ytbhdkimjjopaaaa", sum := "cf216eb4a63b9e76df3352b1bb878392b4c048fcfea6029f4fb7ab7713ad10ee", func := "ganglion/ganglionlaw28.GetterAsks", spec := "getterAsks", unfollowed := true, recurses := true, apart := false }
def GetterAsksSaid : Prop := getterAsksRow.holds Try.pinned (OpenSpec.ofChange getterAsksSpec)

/-- ITS FALSE NEIGHBOUR: 'it returns false'. Refute it at one input. -/
def getterAsksWrong : ChangeSpec := { name := "getterAsks", fn := fun _ => fun
  | [d1, d2, d3] => { results := [.lit (.bool false)], args := [d1, d2, d3] }
  | _ => none }
def GetterAsksWrongFalsely : Prop := getterAsksRow.holds Try.pinned (OpenSpec.ofChange getterAsksWrong)

/-- 'ganglionlaw28.GetterMarks': WHATEVER THE INPUT: true; the input reads as it did. -/
def getterMarksSpec : ChangeSpec := { name := "getterMarks", fn := fun _ => fun
  | [d1, d2, d3] => { results := [.lit (.bool true)], args := [d1, d2, d3] }
  | _ => none }
def getterMarksRow : OpenClaim := { program := "ytbhdkimjjopaaaa", sum := "cf216eb4a63b9e76df3352b1bb878392b4c048fcfea6029f4fb7ab7713ad10ee", func := "ganglion/ganglionlaw28.GetterMarks", spec := "getterMarks", unfollowed := true, recurses := true, apart := false }
def GetterMarksSaid : Prop := getterMarksRow.holds Try.pinned (OpenSpec.ofChange getterMarksSpec)

/-- ITS FALSE NEIGHBOUR: 'it returns false'. Refute it at one input. -/
def getterMarksWrong : ChangeSpec := { name := "getterMarks", fn := fun _ => fun
  | [d1, d2, d3] => { results := [.lit (.bool false)], args := [d1, d2, d3] }
  | _ => none }
def GetterMarksWrongFalsely : Prop := getterMarksRow.holds Try.pinned (OpenSpec.ofChange getterMarksWrong)

/-- 'ganglionlaw12.PlaneTells': WHATEVER THE INPUT: true; the input reads as it did. -/
def planeTellsSpec : ChangeSpec := { name := "planeTells", fn := fun _ => fun
  | [d1, d2, d3, d4] => { results := [.lit (.bool true)], args := [d1, d2, d3, d4] }
  | _ => none }
def planeTellsRow : OpenClaim := { program := "ytbhdkimjjopaaaa", sum := "cf216eb4a63b9e76df3352b1bb878392b4c048fcfea6029f4fb7ab7713ad10ee", func := "ganglion/ganglionlaw12.PlaneTells", spec := "planeTells", unfollowed := true, recurses := true, apart := false }
def PlaneTellsSaid : Prop := planeTellsRow.holds Try.pinned (OpenSpec.ofChange planeTellsSpec)

/-- ITS FALSE NEIGHBOUR: 'it returns false'. Refute it at one input. -/
def planeTellsWrong : ChangeSpec := { name := "planeTells", fn := fun _ => fun
  | [d1, d2, d3, d4] => { results := [.lit (.bool false)], args := [d1, d2, d3, d4] }
  | _ => none }
def PlaneTellsWrongFalsely : Prop := planeTellsRow.holds Try.pinned (OpenSpec.ofChange planeTellsWrong)

/-- 'ganglionlaw12.PlaneRight': WHATEVER THE INPUT: true; the input reads as it did. -/
def planeRightSpec : ChangeSpec := { name := "planeRight", fn := fun _ => fun
  | [d1, d2] => { results := [.lit (.bool true)], args := [d1, d2] }
  | _ => none }
def planeRightRow : OpenClaim := { program := "ytbhdkimjjopaaaa", sum := "cf216eb4a63b9e76df3352b1bb878392b4c048fcfea6029f4fb7ab7713ad10ee", func := "ganglion/ganglionlaw12.PlaneRight", spec := "planeRight", unfollowed := true, recurses := true, apart := false }
def PlaneRightSaid : Prop := planeRightRow.holds Try.pinned (OpenSpec.ofChange planeRightSpec)

/-- ITS FALSE NEIGHBOUR: 'it returns false'. Refute it at one input. -/
def planeRightWrong : ChangeSpec := { name := "planeRight", fn := fun _ => fun
  | [d1, d2] => { results := [.lit (.bool false)], args := [d1, d2] }
  | _ => none }
def PlaneRightWrongFalsely : Prop := planeRightRow.holds Try.pinned (OpenSpec.ofChange planeRightWrong)

/-- 'gangliontop.TopMoved': WHATEVER THE INPUT: true; the input reads as it did. -/
def topMovedSpec : ChangeSpec := { name := "topMoved", fn := fun _ => fun
  | [d1, d2, d3] => { results := [.lit (.bool true)], args := [d1, d2, d3] }
  | _ => none }
def topMovedRow : OpenClaim := { program := "ytbhdkimjjopaaaa", sum := "cf216eb4a63b9e76df3352b1bb878392b4c048fcfea6029f4fb7ab7713ad10ee", func := "ganglion/gangliontop.TopMoved", spec := "topMoved", inPlace := ["math/bits.Add64"], unfollowed := true, recurses := true, apart := false }
def TopMovedSaid : Prop := topMovedRow.holds Try.pinned (OpenSpec.ofChange topMovedSpec)

/-- ITS FALSE NEIGHBOUR: 'it returns false'. Refute it at one input. -/
def topMovedWrong : ChangeSpec := { name := "topMoved", fn := fun _ => fun
  | [d1, d2, d3] => { results := [.lit (.bool false)], args := [d1, d2, d3] }
  | _ => none }
def TopMovedWrongFalsely : Prop := topMovedRow.holds Try.pinned (OpenSpec.ofChange topMovedWrong)

/-- 'ganglionlaw42.CountTells': WHATEVER THE INPUT: true; the input reads as it did. -/
def countTellsSpec : ChangeSpec := { name := "countTells", fn := fun _ => fun
  | [d1, d2, d3, d4] => { results := [.lit (.bool true)], args := [d1, d2, d3, d4] }
  | _ => none }
def countTellsRow : OpenClaim := { program := "ytbhdkimjjopaaaa", sum := "cf216eb4a63b9e76df3352b1bb878392b4c048fcfea6029f4fb7ab7713ad10ee", func := "ganglion/ganglionlaw42.CountTells", spec := "countTells", unfollowed := true, recurses := true, apart := false }
def CountTellsSaid : Prop := countTellsRow.holds Try.pinned (OpenSpec.ofChange countTellsSpec)

/-- ITS FALSE NEIGHBOUR: 'it returns false'. Refute it at one input. -/
def countTellsWrong : ChangeSpec := { name := "countTells", fn := fun _ => fun
  | [d1, d2, d3, d4] => { results := [.lit (.bool false)], args := [d1, d2, d3, d4] }
  | _ => none }
def CountTellsWrongFalsely : Prop := countTellsRow.holds Try.pinned (OpenSpec.ofChange countTellsWrong)

/-- 'ganglionlaw16.ReachTells': WHATEVER THE INPUT: true; the input reads as it did. -/
def reachTellsSpec : ChangeSpec := { name := "reachTells", fn := fun _ => fun
  | [d1, d2, d3, d4, d5] => { results := [.lit (.bool true)], args := [d1, d2, d3, d4, d5] }
  | _ => none }
def reachTellsRow : OpenClaim := { program := "ytbhdkimjjopaaaa", sum := "cf216eb4a63b9e76df3352b1bb878392b4c048fcfea6029f4fb7ab7713ad10ee", func := "ganglion/ganglionlaw16.ReachTells", spec := "reachTells", unfollowed := true, recurses := true, apart := false }
def ReachTellsSaid : Prop := reachTellsRow.holds Try.pinned (OpenSpec.ofChange reachTellsSpec)

/-- ITS FALSE NEIGHBOUR: 'it returns false'. Refute it at one input. -/
def reachTellsWrong : ChangeSpec := { name := "reachTells", fn := fun _ => fun
  | [d1, d2, d3, d4, d5] => { results := [.lit (.bool false)], args := [d1, d2, d3, d4, d5] }
  | _ => none }
def ReachTellsWrongFalsely : Prop := reachTellsRow.holds Try.pinned (OpenSpec.ofChange reachTellsWrong)

/-- 'ganglionlaw16.ReachWhole': WHATEVER THE INPUT: true; the input reads as it did. -/
def reachWholeSpec : ChangeSpec := { name := "reachWhole", fn := fun _ => fun
  | [d1, d2, d3, d4, d5, d6] => { results := [.lit (.bool true)], args := [d1, d2, d3, d4, d5, d6] }
  | _ => none }
def reachWholeRow : OpenClaim := { program := "ytbhdkimjjopaaaa", sum := "cf216eb4a63b9e76df3352b1bb878392b4c048fcfea6029f4fb7ab7713ad10ee", func := "ganglion/ganglionlaw16.ReachWhole", spec := "reachWhole", unfollowed := true, recurses := true, apart := false }
def ReachWholeSaid : Prop := reachWholeRow.holds Try.pinned (OpenSpec.ofChange reachWholeSpec)

/-- ITS FALSE NEIGHBOUR: 'it returns false'. Refute it at one input. -/
def reachWholeWrong : ChangeSpec := { name := "reachWhole", fn := fun _ => fun
  | [d1, d2, d3, d4, d5, d6] => { results := [.lit (.bool false)], args := [d1, d2, d3, d4, d5, d6] }
  | _ => none }
def ReachWholeWrongFalsely : Prop := reachWholeRow.holds Try.pinned (OpenSpec.ofChange reachWholeWrong)

/-- 'ganglionlaw41.ImageTells': WHATEVER THE INPUT: true; the input reads as it did. -/
def imageTellsSpec : ChangeSpec := { name := "imageTells", fn := fun _ => fun
  | [d1, d2, d3] => { results := [.lit (.bool true)], args := [d1, d2, d3] }
  | _ => none }
def imageTellsRow : OpenClaim := { program := "ytbhdkimjjopaaaa", sum := "cf216eb4a63b9e76df3352b1bb878392b4c048fcfea6029f4fb7ab7713ad10ee", func := "ganglion/ganglionlaw41.ImageTells", spec := "imageTells", inPlace := ["internal/abi.NoEscape"], unfollowed := true, recurses := true, apart := false }
def ImageTellsSaid : Prop := imageTellsRow.holds Try.pinned (OpenSpec.ofChange imageTellsSpec)

/-- ITS FALSE NEIGHBOUR: 'it returns false'. Refute it at one input. -/
def imageTellsWrong : ChangeSpec := { name := "imageTells", fn := fun _ => fun
  | [d1, d2, d3] => { results := [.lit (.bool false)], args := [d1, d2, d3] }
  | _ => none }
def ImageTellsWrongFalsely : Prop := imageTellsRow.holds Try.pinned (OpenSpec.ofChange imageTellsWrong)

/-- 'ganglionlaw41.ImageBack': WHATEVER THE INPUT: true; the input reads as it did. -/
def imageBackSpec : ChangeSpec := { name := "imageBack", fn := fun _ => fun
  | [d1, d2, d3, d4, d5] => { results := [.lit (.bool true)], args := [d1, d2, d3, d4, d5] }
  | _ => none }
def imageBackRow : OpenClaim := { program := "ytbhdkimjjopaaaa", sum := "cf216eb4a63b9e76df3352b1bb878392b4c048fcfea6029f4fb7ab7713ad10ee", func := "ganglion/ganglionlaw41.ImageBack", spec := "imageBack", inPlace := ["internal/abi.NoEscape"], unfollowed := true, recurses := true, apart := false }
def ImageBackSaid : Prop := imageBackRow.holds Try.pinned (OpenSpec.ofChange imageBackSpec)

/-- ITS FALSE NEIGHBOUR: 'it returns false'. Refute it at one input. -/
def imageBackWrong : ChangeSpec := { name := "imageBack", fn := fun _ => fun
  | [d1, d2, d3, d4, d5] => { results := [.lit (.bool false)], args := [d1, d2, d3, d4, d5] }
  | _ => none }
def ImageBackWrongFalsely : Prop := imageBackRow.holds Try.pinned (OpenSpec.ofChange imageBackWrong)

/- THE SECOND FORM. 'bulk': how many values and letters a reading holds, each counted each time it is reached (what is shared counts as often as it is met; a slice's spare places count too). A statement '..UptoSaid' is the law's where the arguments, and the package variables that the reading takes, are together of bulk at most 1048576: NARROWER than '..Said'. Prove '..Said' where nothing that the law and all that it calls make is longer than what came in: it says more and counts as full. Else prove '..UptoSaid'. A law counts once. -/
mutual
def uptoBulk {H : Type} : DataW H → Nat
  | .lit (.string bytes) => bytes.length + 1
  | .lit _ => 1
  | .nil => 1
  | .ptr d => uptoBulk d + 1
  | .slice elems spare => uptoBulkAll elems + uptoBulkAll spare + 1
  | .agg parts => uptoBulkAll parts + 1
  | .iface _ d => uptoBulk d + 1
  | .map entries => uptoBulkEntries entries + 1
  | .held _ => 1
def uptoBulkAll {H : Type} : List (DataW H) → Nat
  | [] => 0
  | d :: r => uptoBulk d + uptoBulkAll r
def uptoBulkEntries {H : Type} : List (Lit × DataW H) → Nat
  | [] => 0
  | x :: r => uptoBulkEntry x + uptoBulkEntries r
def uptoBulkEntry {H : Type} : Lit × DataW H → Nat
  | (.string bytes, d) => bytes.length + uptoBulk d + 1
  | (_, d) => uptoBulk d + 1
 end
def uptoSmall : (H : Type) → List (DataW H) → Bool := fun _ ds => decide (uptoBulkAll ds ≤ 1048576)
def OpenSpec.upto (s : _root_.Go.ChangeSpec) : _root_.Go.OpenSpec := { _root_.Go.OpenSpec.ofChange s with cond := some uptoSmall }

/-- 'gangliontop.TopCutDist', WHERE WHAT IT READS IS OF BULK AT MOST 1048576: true; the input reads as it did. -/
def topCutDistUptoRow : OpenClaim := { program := "ytbhdkimjjopaaaa", sum := "cf216eb4a63b9e76df3352b1bb878392b4c048fcfea6029f4fb7ab7713ad10ee", func := "ganglion/gangliontop.TopCutDist", spec := "topCutDist", inPlace := ["math/bits.Add64"], unfollowed := true, recurses := true, apart := false, narrowed := true }
def TopCutDistUptoSaid : Prop := topCutDistUptoRow.holds Try.pinned (OpenSpec.upto topCutDistSpec)

/-- 'ganglionlaw20.EpochSafe', WHERE WHAT IT READS IS OF BULK AT MOST 1048576: true; the input reads as it did. -/
def epochSafeUptoRow : OpenClaim := { program := "ytbhdkimjjopaaaa", sum := "cf216eb4a63b9e76df3352b1bb878392b4c048fcfea6029f4fb7ab7713ad10ee", func := "ganglion/ganglionlaw20.EpochSafe", spec := "epochSafe", unfollowed := true, recurses := true, apart := false, narrowed := true }
def EpochSafeUptoSaid : Prop := epochSafeUptoRow.holds Try.pinned (OpenSpec.upto epochSafeSpec)

/-- 'ganglionlaw28.GetterAsks', WHERE WHAT IT READS IS OF BULK AT MOST 1048576: true; the input reads as it did. -/
def getterAsksUptoRow : OpenClaim := { program := "ytbhdkimjjopaaaa", sum := "cf216eb4a63b9e76df3352b1bb878392b4c048fcfea6029f4fb7ab7713ad10ee", func := "ganglion/ganglionlaw28.GetterAsks", spec := "getterAsks", unfollowed := true, recurses := true, apart := false, narrowed := true }
def GetterAsksUptoSaid : Prop := getterAsksUptoRow.holds Try.pinned (OpenSpec.upto getterAsksSpec)

/-- 'ganglionlaw28.GetterMarks', WHERE WHAT IT READS IS OF BULK AT MOST 1048576: true; the input reads as it did. -/
def getterMarksUptoRow : OpenClaim := { program := "ytbhdkimjjopaaaa", sum := "cf216eb4a63b9e76df3352b1bb878392b4c048fcfea6029f4fb7ab7713ad10ee", func := "ganglion/ganglionlaw28.GetterMarks", spec := "getterMarks", unfollowed := true, recurses := true, apart := false, narrowed := true }
def GetterMarksUptoSaid : Prop := getterMarksUptoRow.holds Try.pinned (OpenSpec.upto getterMarksSpec)

/-- 'ganglionlaw12.PlaneTells', WHERE WHAT IT READS IS OF BULK AT MOST 1048576: true; the input reads as it did. -/
def planeTellsUptoRow : OpenClaim := { program := "ytbhdkimjjopaaaa", sum := "cf216eb4a63b9e76df3352b1bb878392b4c048fcfea6029f4fb7ab7713ad10ee", func := "ganglion/ganglionlaw12.PlaneTells", spec := "planeTells", unfollowed := true, recurses := true, apart := false, narrowed := true }
def PlaneTellsUptoSaid : Prop := planeTellsUptoRow.holds Try.pinned (OpenSpec.upto planeTellsSpec)

/-- 'ganglionlaw12.PlaneRight', WHERE WHAT IT READS IS OF BULK AT MOST 1048576: true; the input reads as it did. -/
def planeRightUptoRow : OpenClaim := { program := "ytbhdkimjjopaaaa", sum := "cf216eb4a63b9e76df3352b1bb878392b4c048fcfea6029f4fb7ab7713ad10ee", func := "ganglion/ganglionlaw12.PlaneRight", spec := "planeRight", unfollowed := true, recurses := true, apart := false, narrowed := true }
def PlaneRightUptoSaid : Prop := planeRightUptoRow.holds Try.pinned (OpenSpec.upto planeRightSpec)

/-- 'gangliontop.TopMoved', WHERE WHAT IT READS IS OF BULK AT MOST 1048576: true; the input reads as it did. -/
def topMovedUptoRow : OpenClaim := { program := "ytbhdkimjjopaaaa", sum := "cf216eb4a63b9e76df3352b1bb878392b4c048fcfea6029f4fb7ab7713ad10ee", func := "ganglion/gangliontop.TopMoved", spec := "topMoved", inPlace := ["math/bits.Add64"], unfollowed := true, recurses := true, apart := false, narrowed := true }
def TopMovedUptoSaid : Prop := topMovedUptoRow.holds Try.pinned (OpenSpec.upto topMovedSpec)

/-- 'ganglionlaw42.CountTells', WHERE WHAT IT READS IS OF BULK AT MOST 1048576: true; the input reads as it did. -/
def countTellsUptoRow : OpenClaim := { program := "ytbhdkimjjopaaaa", sum := "cf216eb4a63b9e76df3352b1bb878392b4c048fcfea6029f4fb7ab7713ad10ee", func := "ganglion/ganglionlaw42.CountTells", spec := "countTells", unfollowed := true, recurses := true, apart := false, narrowed := true }
def CountTellsUptoSaid : Prop := countTellsUptoRow.holds Try.pinned (OpenSpec.upto countTellsSpec)

/-- 'ganglionlaw16.ReachTells', WHERE WHAT IT READS IS OF BULK AT MOST 1048576: true; the input reads as it did. -/
def reachTellsUptoRow : OpenClaim := { program := "ytbhdkimjjopaaaa", sum := "cf216eb4a63b9e76df3352b1bb878392b4c048fcfea6029f4fb7ab7713ad10ee", func := "ganglion/ganglionlaw16.ReachTells", spec := "reachTells", unfollowed := true, recurses := true, apart := false, narrowed := true }
def ReachTellsUptoSaid : Prop := reachTellsUptoRow.holds Try.pinned (OpenSpec.upto reachTellsSpec)

/-- 'ganglionlaw16.ReachWhole', WHERE WHAT IT READS IS OF BULK AT MOST 1048576: true; the input reads as it did. -/
def reachWholeUptoRow : OpenClaim := { program := "ytbhdkimjjopaaaa", sum := "cf216eb4a63b9e76df3352b1bb878392b4c048fcfea6029f4fb7ab7713ad10ee", func := "ganglion/ganglionlaw16.ReachWhole", spec := "reachWhole", unfollowed := true, recurses := true, apart := false, narrowed := true }
def ReachWholeUptoSaid : Prop := reachWholeUptoRow.holds Try.pinned (OpenSpec.upto reachWholeSpec)

/-- 'ganglionlaw41.ImageTells', WHERE WHAT IT READS IS OF BULK AT MOST 1048576: true; the input reads as it did. -/
def imageTellsUptoRow : OpenClaim := { program := "ytbhdkimjjopaaaa", sum := "cf216eb4a63b9e76df3352b1bb878392b4c048fcfea6029f4fb7ab7713ad10ee", func := "ganglion/ganglionlaw41.ImageTells", spec := "imageTells", inPlace := ["internal/abi.NoEscape"], unfollowed := true, recurses := true, apart := false, narrowed := true }
def ImageTellsUptoSaid : Prop := imageTellsUptoRow.holds Try.pinned (OpenSpec.upto imageTellsSpec)

/-- 'ganglionlaw41.ImageBack', WHERE WHAT IT READS IS OF BULK AT MOST 1048576: true; the input reads as it did. -/
def imageBackUptoRow : OpenClaim := { program := "ytbhdkimjjopaaaa", sum := "cf216eb4a63b9e76df3352b1bb878392b4c048fcfea6029f4fb7ab7713ad10ee", func := "ganglion/ganglionlaw41.ImageBack", spec := "imageBack", inPlace := ["internal/abi.NoEscape"], unfollowed := true, recurses := true, apart := false, narrowed := true }
def ImageBackUptoSaid : Prop := imageBackUptoRow.holds Try.pinned (OpenSpec.upto imageBackSpec)

end Rows
end Go.Proofs.Ytbhdkimjjopaaaa
