/- Walks of package rng and of its reference: the functions on numbers. Each contract says what the call returns, and that the world is left alone. -/
import Derived.Test.YtcpgapnikgchaaaBase
import Derived.Test.YtcpgapnikgchaaaRngP
namespace Go.Proofs.Ytcpgapnikgchaaa
open Go.RowKit

end Go.Proofs.Ytcpgapnikgchaaa
