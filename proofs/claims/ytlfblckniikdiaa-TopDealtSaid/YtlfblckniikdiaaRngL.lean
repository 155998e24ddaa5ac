/- Walks of package rng: the level of a node, in the program and in the reference. -/
import Derived.Test.YtlfblckniikdiaaRngW
import Derived.Deep.DeepMust
namespace Go.Proofs.Ytlfblckniikdiaa
open Go.RowKit

def lvlFrom (d m : Int) : Nat → Nat → Nat
  | 0, l => l
  | k + 1, l => if belowI (atI d l) m = 0 then lvlFrom d m k (l + 1) else l
/-- How high a node is. -/
def lvlI (d m : Int) : Nat := lvlFrom d m 7 0
/-- The links that count. -/
def lvlM (n : Int) : Int := min (max n 2) 32
theorem lvlM_bd (n : Int) : 2 ≤ lvlM n ∧ lvlM n ≤ 32 := by unfold lvlM; omega
theorem lvl_yes {d m : Int} {l : Nat} (hl : l < 7) (h : belowI (atI d l) m = 0) : lvlFrom d m (7 - l) l = lvlFrom d m (7 - (l + 1)) (l + 1) := by
  rw [show 7 - l = (7 - (l + 1)) + 1 by omega, lvlFrom, if_pos h]
theorem lvl_no {d m : Int} {l : Nat} (hl : l < 7) (h : belowI (atI d l) m ≠ 0) : lvlFrom d m (7 - l) l = l := by
  rw [show 7 - l = (7 - (l + 1)) + 1 by omega, lvlFrom, if_neg h]

end Go.Proofs.Ytlfblckniikdiaa
