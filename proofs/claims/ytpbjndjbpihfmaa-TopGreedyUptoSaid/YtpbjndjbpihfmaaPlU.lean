/- Planes: whether the ring is right, by the document. -/
import Derived.Test.YtpbjndjbpihfmaaPlT
import Derived.Deep.CutRange
namespace Go.Proofs.Ytpbjndjbpihfmaa
open Go.RowKit Go.Maps Go.ChangeMaps Go.MapKept
end Go.Proofs.Ytpbjndjbpihfmaa
