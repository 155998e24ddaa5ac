/- Walks of package rng and of its reference: the functions on numbers. Each contract says what the call returns, and that the world is left alone. -/
import Derived.Test.YtgcoecibhonfnaaBase
import Derived.Test.YtgcoecibhonfnaaRngP
namespace Go.Proofs.Ytgcoecibhonfnaa
open Go.RowKit

end Go.Proofs.Ytgcoecibhonfnaa
