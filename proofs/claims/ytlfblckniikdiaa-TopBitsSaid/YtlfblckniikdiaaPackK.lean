/- Walk of the reference: the word of parts. -/
import Derived.Test.YtlfblckniikdiaaPackJ
namespace Go.Proofs.Ytlfblckniikdiaa
open Go.RowKit
end Go.Proofs.Ytlfblckniikdiaa
