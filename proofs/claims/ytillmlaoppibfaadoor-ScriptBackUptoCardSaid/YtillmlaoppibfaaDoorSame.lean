/- Walks: whether two lists of integers are one. -/
import Derived.Test.YtillmlaoppibfaaDoorMem
namespace Go.Proofs.YtillmlaoppibfaaDoor
open Go.RowKit
def sameB (xs ys : List Int) : Bool := decide (xs = ys)
end Go.Proofs.YtillmlaoppibfaaDoor
