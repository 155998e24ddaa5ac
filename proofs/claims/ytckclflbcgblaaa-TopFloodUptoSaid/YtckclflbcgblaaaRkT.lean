/- The first of some spots: rank.Least. -/
import Derived.Test.YtckclflbcgblaaaRkJ
namespace Go.Proofs.Ytckclflbcgblaaa
open Go.RowKit
end Go.Proofs.Ytckclflbcgblaaa
