/- Planes: whether the ring is right, by the document. -/
import Derived.Test.YtckclflbcgblaaaPlT
import Derived.Deep.CutRange
namespace Go.Proofs.Ytckclflbcgblaaa
open Go.RowKit Go.Maps Go.ChangeMaps Go.MapKept
end Go.Proofs.Ytckclflbcgblaaa
