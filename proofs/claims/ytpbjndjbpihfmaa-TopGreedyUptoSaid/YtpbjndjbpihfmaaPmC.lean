/- Planes: whether a plane is right, by the document. Printed by genPmC.py. -/
import Derived.Test.YtpbjndjbpihfmaaPmB
namespace Go.Proofs.Ytpbjndjbpihfmaa
open Go.RowKit Go.Maps Go.ChangeMaps Go.MapKept
end Go.Proofs.Ytpbjndjbpihfmaa
