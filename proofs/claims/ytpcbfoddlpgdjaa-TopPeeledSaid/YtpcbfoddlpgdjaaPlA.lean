/- Planes: whether a slot is there. -/
import Derived.Test.YtpcbfoddlpgdjaaPlP
namespace Go.Proofs.Ytpcbfoddlpgdjaa
open Go.RowKit
end Go.Proofs.Ytpcbfoddlpgdjaa
