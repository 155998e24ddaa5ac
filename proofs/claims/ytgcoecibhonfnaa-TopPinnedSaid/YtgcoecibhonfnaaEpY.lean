/- The document's clock: Look. Printed by genEpE.py. -/
import Derived.Test.YtgcoecibhonfnaaEpX
import Derived.Deep.Cut
namespace Go.Proofs.Ytgcoecibhonfnaa
open Go.RowKit
end Go.Proofs.Ytgcoecibhonfnaa
