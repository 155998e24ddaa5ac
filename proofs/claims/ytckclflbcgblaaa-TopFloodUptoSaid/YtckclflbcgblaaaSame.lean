/- Walks: whether two lists of integers are one. -/
import Derived.Test.YtckclflbcgblaaaMem
namespace Go.Proofs.Ytckclflbcgblaaa
open Go.RowKit
def sameB (xs ys : List Int) : Bool := decide (xs = ys)
end Go.Proofs.Ytckclflbcgblaaa
