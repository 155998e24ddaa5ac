/- The document's clock: Load, Pin, Unpin. Printed by genEpE.py. -/
import Derived.Test.YtgcoecibhonfnaaEpE
import Derived.StillTailTactics
namespace Go.Proofs.Ytgcoecibhonfnaa
open Go.RowKit
end Go.Proofs.Ytgcoecibhonfnaa
