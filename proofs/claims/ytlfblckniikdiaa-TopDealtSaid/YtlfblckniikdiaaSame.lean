/- Walks: whether two lists of integers are one. -/
import Derived.Test.YtlfblckniikdiaaMem
namespace Go.Proofs.Ytlfblckniikdiaa
open Go.RowKit
def sameB (xs ys : List Int) : Bool := decide (xs = ys)
end Go.Proofs.Ytlfblckniikdiaa
