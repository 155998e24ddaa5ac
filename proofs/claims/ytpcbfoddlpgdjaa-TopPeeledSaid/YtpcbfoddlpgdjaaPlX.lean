/- Lists of neighbours: Right. -/
import Derived.Test.YtpcbfoddlpgdjaaPlW
import Derived.Test.YtpcbfoddlpgdjaaSub
namespace Go.Proofs.Ytpcbfoddlpgdjaa
open Go.RowKit Go.Maps Go.ChangeMaps Go.MapKept
end Go.Proofs.Ytpcbfoddlpgdjaa
