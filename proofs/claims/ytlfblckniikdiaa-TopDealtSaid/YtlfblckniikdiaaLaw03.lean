/- Walks of the laws of rng. -/
import Derived.Test.YtlfblckniikdiaaPerm
import Derived.Test.YtlfblckniikdiaaRngL
import Derived.Test.YtlfblckniikdiaaSame
namespace Go.Proofs.Ytlfblckniikdiaa
open Go.RowKit
theorem perm13 : permI 1 (permLen 3) = [0, 1, 2] := by decide +kernel
theorem perm_small (s : Int) (n : Int) : (permI s (permLen n)).length ≤ 4611686018427387904 := by rw [len_perm]; unfold permLen; omega
end Go.Proofs.Ytlfblckniikdiaa
