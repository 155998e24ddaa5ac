/-
  No cell of these rows narrows 'for every input' (looked for: loops, veiled, ifaces, maps, wideKeys, modest, calm, conditions, laid).
  DERIVED. THE GIVEN ROWS OF THIS SEAT. 7 by the template 'for every input the law returns true; each argument reads behind the call as it read before'; 0 by the template 'total and deterministic' (their statements: YtkhnnjeinpojkaaTotals.lean).
  GIVEN WITH THE SEED: the statements are not yours to turn. If you find one false, say at which input.
  Laid BY PROGRAM, IN A SANDBOX (cutbox-rows.mjs): the forced cells as the released guide's own fill.sh prints them over the translation 39b88e972c05048e… (all of the seat's roots in one cut). By AI agents, Wed Nov 11 2026. No macro, syntax, notation, axiom, sorry.
-/
import Derived.Test.YtkhnnjeinpojkaaChecked
import GoSem.Claim
import GoSem.ClaimJoined
import GoSem.ClaimMapViews
import Derived.JoinedTies
import Derived.KernelRfl
namespace Go.Proofs.Ytkhnnjeinpojkaa
/- THE CELL 'sum', in the pinned program and in every row, IS THE sha256 OF THE DUMP (.gsa) THAT YtkhnnjeinpojkaaProg.lean LOADS. Nothing in Lean hashes anything: it is a label: what it is worth is what the hold of that sum in a sandbox is worth. -/
noncomputable def Try.pinned : Pinned := { name := "ytkhnnjeinpojkaa", sum := "39b88e972c05048efd5b32f350d15165c8241d62379670f5997543b68ca1449e", checked := Try.checked }
namespace Rows
def none {H : Type} : Left H := { results := [], args := [] }

/-- 'ganglionlaw28.GetterAsks': WHATEVER THE INPUT: true; the input reads as it did. -/
def getterAsksSpec : ChangeSpec := { name := "getterAsks", fn := fun _ => fun
  | [d1, d2, d3] => { results := [.lit (.bool true)], args := [d1, d2, d3] }
  | _ => none }
def getterAsksRow : OpenClaim := { program := "ytkhnnjeinpojkaa", sum := "39b88e972c05048efd5b32f350d15165c8241d62379670f5997543b68ca1449e", func := "ganglion/ganglionlaw28.GetterAsks", spec := "getterAsks", unfollowed := true, recurses := true, apart := false }
def GetterAsksSaid : Prop := getterAsksRow.holds Try.pinned (OpenSpec.ofChange getterAsksSpec)

/-- ITS FALSE NEIGHBOUR: 'it returns false'. Refute it at one input. -/
def getterAsksWrong : ChangeSpec := { name := "getterAsks", fn := fun _ => fun
  | [d1, d2, d3] => { results := [.lit (.bool false)], args := [d1, d2, d3] }
  | _ => none }
def GetterAsksWrongFalsely : Prop := getterAsksRow.holds Try.pinned (OpenSpec.ofChange getterAsksWrong)

/-- 'ganglionlaw28.GetterMarks': WHATEVER THE INPUT: true; the input reads as it did. -/
def getterMarksSpec : ChangeSpec := { name := "getterMarks", fn := fun _ => fun
  | [d1, d2, d3] => { results := [.lit (.bool true)], args := [d1, d2, d3] }
  | _ => none }
def getterMarksRow : OpenClaim := { program := "ytkhnnjeinpojkaa", sum := "39b88e972c05048efd5b32f350d15165c8241d62379670f5997543b68ca1449e", func := "ganglion/ganglionlaw28.GetterMarks", spec := "getterMarks", unfollowed := true, recurses := true, apart := false }
def GetterMarksSaid : Prop := getterMarksRow.holds Try.pinned (OpenSpec.ofChange getterMarksSpec)

/-- ITS FALSE NEIGHBOUR: 'it returns false'. Refute it at one input. -/
def getterMarksWrong : ChangeSpec := { name := "getterMarks", fn := fun _ => fun
  | [d1, d2, d3] => { results := [.lit (.bool false)], args := [d1, d2, d3] }
  | _ => none }
def GetterMarksWrongFalsely : Prop := getterMarksRow.holds Try.pinned (OpenSpec.ofChange getterMarksWrong)

/-- 'ganglionlaw12.PlaneTells': WHATEVER THE INPUT: true; the input reads as it did. -/
def planeTellsSpec : ChangeSpec := { name := "planeTells", fn := fun _ => fun
  | [d1, d2, d3, d4] => { results := [.lit (.bool true)], args := [d1, d2, d3, d4] }
  | _ => none }
def planeTellsRow : OpenClaim := { program := "ytkhnnjeinpojkaa", sum := "39b88e972c05048efd5b32f350d15165c8241d62379670f5997543b68ca1449e", func := "ganglion/ganglionlaw12.PlaneTells", spec := "planeTells", unfollowed := true, recurses := true, apart := false }
def PlaneTellsSaid : Prop := planeTellsRow.holds Try.pinned (OpenSpec.ofChange planeTellsSpec)

/-- ITS FALSE NEIGHBOUR: 'it returns false'. Refute it at one input. -/
def planeTellsWrong : ChangeSpec := { name := "planeTells", fn := fun _ => fun
  | [d1, d2, d3, d4] => { results := [.lit (.bool false)], args := [d1, d2, d3, d4] }
  | _ => none }
def PlaneTellsWrongFalsely : Prop := planeTellsRow.holds Try.pinned (OpenSpec.ofChange planeTellsWrong)

/-- 'ganglionlaw12.PlaneRight': WHATEVER THE INPUT: true; the input reads as it did. -/
def planeRightSpec : ChangeSpec := { name := "planeRight", fn := fun _ => fun
  | [d1, d2] => { results := [.lit (.bool true)], args := [d1, d2] }
  | _ => none }
def planeRightRow : OpenClaim := { program := "ytkhnnjeinpojkaa", sum := "39b88e972c05048efd5b32f350d15165c8241d62379670f5997543b68ca1449e", func := "ganglion/ganglionlaw12.PlaneRight", spec := "planeRight", unfollowed := true, recurses := true, apart := false }
def PlaneRightSaid : Prop := planeRightRow.holds Try.pinned (OpenSpec.ofChange planeRightSpec)

/-- ITS FALSE NEIGHBOUR: 'it returns false'. Refute it at one input. -/
def planeRightWrong : ChangeSpec := { name := "planeRight", fn := fun _ => fun
  | [d1, d2] => { results := [.lit (.bool false)], args := [d1, d2] }
  | _ => none }
def PlaneRightWrongFalsely : Prop := planeRightRow.holds Try.pinned (OpenSpec.ofChange planeRightWrong)

/-- 'ganglionlaw42.CountTells': WHATEVER THE INPUT: true; the input reads as it did. -/
def countTellsSpec : ChangeSpec := { name := "countTells", fn := fun _ => fun
  | [d1, d2, d3, d4] => { results := [.lit (.bool true)], args := [d1, d2, d3, d4] }
  | _ => none }
def countTellsRow : OpenClaim := { program := "ytkhnnjeinpojkaa", sum := "39b88e972c05048efd5b32f350d15165c8241d62379670f5997543b68ca1449e", func := "ganglion/ganglionlaw42.CountTells", spec := "countTells", unfollowed := true, recurses := true, apart := false }
def CountTellsSaid : Prop := countTellsRow.holds Try.pinned (OpenSpec.ofChange countTellsSpec)

/-- ITS FALSE NEIGHBOUR: 'it returns false'. Refute it at one input. -/
def countTellsWrong : ChangeSpec := { name := "countTells", fn := fun _ => fun
  | [d1, d2, d3, d4] => { results := [.lit (.bool false)], args := [d1, d2, d3, d4] }
  | _ => none }
def CountTellsWrongFalsely : Prop := countTellsRow.holds Try.pinned (OpenSpec.ofChange countTellsWrong)

/-- 'ganglionlaw16.ReachTells': WHATEVER THE INPUT: true; the input reads as it did. -/
def reachTellsSpec : ChangeSpec := { name := "reachTells", fn := fun _ => fun
  | [d1, d2, d3, d4, d5] => { results := [.lit (.bool true)], args := [d1, d2, d3, d4, d5] }
  | _ => none }
def reachTellsRow : OpenClaim := { program := "ytkhnnjeinpojkaa", sum := "39b88e972c05048efd5b32f350d15165c8241d62379670f5997543b68ca1449e", func := "ganglion/ganglionlaw16.ReachTells", spec := "reachTells", unfollowed := true, recurses := true, apart := false }
def ReachTellsSaid : Prop := reachTellsRow.holds Try.pinned (OpenSpec.ofChange reachTellsSpec)

/-- ITS FALSE NEIGHBOUR: 'it returns false'. Refute it at one input. -/
def reachTellsWrong : ChangeSpec := { name := "reachTells", fn := fun _ => fun
  | [d1, d2, d3, d4, d5] => { results := [.lit (.bool false)], args := [d1, d2, d3, d4, d5] }
  | _ => none }
def ReachTellsWrongFalsely : Prop := reachTellsRow.holds Try.pinned (OpenSpec.ofChange reachTellsWrong)

/-- 'ganglionlaw16.ReachWhole': WHATEVER THE INPUT: true; the input reads as it did. -/
def reachWholeSpec : ChangeSpec := { name := "reachWhole", fn := fun _ => fun
  | [d1, d2, d3, d4, d5, d6] => { results := [.lit (.bool true)], args := [d1, d2, d3, d4, d5, d6] }
  | _ => none }
def reachWholeRow : OpenClaim := { program := "ytkhnnjeinpojkaa", sum := "39b88e972c05048efd5b32f350d15165c8241d62379670f5997543b68ca1449e", func := "ganglion/ganglionlaw16.ReachWhole", spec := "reachWhole", unfollowed := true, recurses := true, apart := false }
def ReachWholeSaid : Prop := reachWholeRow.holds Try.pinned (OpenSpec.ofChange reachWholeSpec)

/-- ITS FALSE NEIGHBOUR: 'it returns false'. Refute it at one input. -/
def reachWholeWrong : ChangeSpec := { name := "reachWhole", fn := fun _ => fun
  | [d1, d2, d3, d4, d5, d6] => { results := [.lit (.bool false)], args := [d1, d2, d3, d4, d5, d6] }
  | _ => none }
def ReachWholeWrongFalsely : Prop := reachWholeRow.holds Try.pinned (OpenSpec.ofChange reachWholeWrong)

/- THE SECOND FORM. 'bulk': how many values and letters a reading holds, each counted each time it is reached (what is shared counts as often as it is met; a slice's spare places count too). A statement '..UptoSaid' is the law's where the arguments, and the package variables that the reading takes, are together of bulk at most 1048576: NARROWER than '..Said'. Prove '..Said' where nothing that the law and all that it calls make is longer than what came in: it says more and counts as full. Else prove '..UptoSaid'. A law counts once. -/
mutual
def uptoBulk {H : Type} : DataW H → Nat
  | .lit (.string bytes) => bytes.length + 1
  | .lit _ => 1
  | .nil => 1
  | .ptr d => uptoBulk d + 1
  | .slice elems spare => uptoBulkAll elems + uptoBulkAll spare + 1
  | .agg parts => uptoBulkAll parts + 1
  | .iface _ d => uptoBulk d + 1
  | .map entries => uptoBulkEntries entries + 1
  | .held _ => 1
def uptoBulkAll {H : Type} : List (DataW H) → Nat
  | [] => 0
  | d :: r => uptoBulk d + uptoBulkAll r
def uptoBulkEntries {H : Type} : List (Lit × DataW H) → Nat
  | [] => 0
  | x :: r => uptoBulkEntry x + uptoBulkEntries r
def uptoBulkEntry {H : Type} : Lit × DataW H → Nat
  | (.string bytes, d) => bytes.length + uptoBulk d + 1
  | (_, d) => uptoBulk d + 1
 end
def uptoSmall : (H : Type) → List (DataW H) → Bool := fun _ ds => decide (uptoBulkAll ds ≤ 1048576)
def OpenSpec.upto (s : _root_.Go.ChangeSpec) : _root_.Go.OpenSpec := { _root_.Go.OpenSpec.ofChange s with cond := some uptoSmall }

/-- 'ganglionlaw28.GetterAsks', WHERE WHAT IT READS IS OF BULK AT MOST 1048576: true; the input reads as it did. -/
def getterAsksUptoRow : OpenClaim := { program := "ytkhnnjeinpojkaa", sum := "39b88e972c05048efd5b32f350d15165c8241d62379670f5997543b68ca1449e", func := "ganglion/ganglionlaw28.GetterAsks", spec := "getterAsks", unfollowed := true, recurses := true, apart := false, narrowed := true }
def GetterAsksUptoSaid : Prop := getterAsksUptoRow.holds Try.pinned (OpenSpec.upto getterAsksSpec)

/-- 'ganglionlaw28.GetterMarks', WHERE WHAT IT READS IS OF BULK AT MOST 1048576: true; the input reads as it did. -/
def getterMarksUptoRow : OpenClaim := { program := "ytkhnnjeinpojkaa", sum := "39b88e972c05048efd5b32f350d15165c8241d62379670f5997543b68ca1449e", func := "ganglion/ganglionlaw28.GetterMarks", spec := "getterMarks", unfollowed := true, recurses := true, apart := false, narrowed := true }
def GetterMarksUptoSaid : Prop := getterMarksUptoRow.holds Try.pinned (OpenSpec.upto getterMarksSpec)

/-- 'ganglionlaw12.PlaneTells', WHERE WHAT IT READS IS OF BULK AT MOST 1048576: true; the input reads as it did. -/
def planeTellsUptoRow : OpenClaim := { program := "ytkhnnjeinpojkaa", sum := "39b88e972c05048efd5b32f350d15165c8241d62379670f5997543b68ca1449e", func := "ganglion/ganglionlaw12.PlaneTells", spec := "planeTells", unfollowed := true, recurses := true, apart := false, narrowed := true }
def PlaneTellsUptoSaid : Prop := planeTellsUptoRow.holds Try.pinned (OpenSpec.upto planeTellsSpec)

/-- 'ganglionlaw12.PlaneRight', WHERE WHAT IT READS IS OF BULK AT MOST 1048576: true; the input reads as it did. -/
def planeRightUptoRow : OpenClaim := { program := "ytkhnnjeinpojkaa", sum := "39b88e972c05048efd5b32f350d15165c8241d62379670f5997543b68ca1449e", func := "ganglion/ganglionlaw12.PlaneRight", spec := "planeRight", unfollowed := true, recurses := true, apart := false, narrowed := true }
def PlaneRightUptoSaid : Prop := planeRightUptoRow.holds Try.pinned (OpenSpec.upto planeRightSpec)

/-- 'ganglionlaw42.CountTells', WHERE WHAT IT READS IS OF BULK AT MOST 1048576: true; the input reads as it did. -/
def countTellsUptoRow : OpenClaim := { program := "ytkhnnjeinpojkaa", sum := "39b88e972c05048efd5b32f350d15165c8241d62379670f5997543b68ca1449e", func := "ganglion/ganglionlaw42.CountTells", spec := "countTells", unfollowed := true, recurses := true, apart := false, narrowed := true }
def CountTellsUptoSaid : Prop := countTellsUptoRow.holds Try.pinned (OpenSpec.upto countTellsSpec)

/-- 'ganglionlaw16.ReachTells', WHERE WHAT IT READS IS OF BULK AT MOST 1048576: true; the input reads as it did. -/
def reachTellsUptoRow : OpenClaim := { program := "ytkhnnjeinpojkaa", sum := "39b88e972c05048efd5b32f350d15165c8241d62379670f5997543b68ca1449e", func := "ganglion/ganglionlaw16.ReachTells", spec := "reachTells", unfollowed := true, recurses := true, apart := false, narrowed := true }
def ReachTellsUptoSaid : Prop := reachTellsUptoRow.holds Try.pinned (OpenSpec.upto reachTellsSpec)

/-- 'ganglionlaw16.ReachWhole', WHERE WHAT IT READS IS OF BULK AT MOST 1048576: true; the input reads as it did. -/
def reachWholeUptoRow : OpenClaim := { program := "ytkhnnjeinpojkaa", sum := "39b88e972c05048efd5b32f350d15165c8241d62379670f5997543b68ca1449e", func := "ganglion/ganglionlaw16.ReachWhole", spec := "reachWhole", unfollowed := true, recurses := true, apart := false, narrowed := true }
def ReachWholeUptoSaid : Prop := reachWholeUptoRow.holds Try.pinned (OpenSpec.upto reachWholeSpec)

end Rows
end Go.Proofs.Ytkhnnjeinpojkaa
