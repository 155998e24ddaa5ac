/- Planes: whether a plane is right, by the document. Printed by genPmC.py. -/
import Derived.Test.YtckclflbcgblaaaPmB
namespace Go.Proofs.Ytckclflbcgblaaa
open Go.RowKit Go.Maps Go.ChangeMaps Go.MapKept
end Go.Proofs.Ytckclflbcgblaaa
