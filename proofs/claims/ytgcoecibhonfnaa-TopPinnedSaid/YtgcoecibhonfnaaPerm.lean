/- Walks: numbers in another order, in the program and in the reference. -/
import Derived.Test.YtgcoecibhonfnaaMem
import Derived.Test.YtgcoecibhonfnaaRngW
import Derived.Deep.RegionWith
namespace Go.Proofs.Ytgcoecibhonfnaa
open Go.RowKit
/-- The place that the i-th place changes with. -/
def permK (seed : Int) (i : Nat) : Nat := (belowI (atI seed i) (i + 1)).toNat
theorem permK_le (seed : Int) (i : Nat) : permK seed i ≤ i := by
  have := belowI_bd (n := (i : Int) + 1) (word_at seed i) (by omega)
  unfold permK; omega
theorem permK_cast (seed : Int) (i : Nat) : belowI (atI seed i) (i + 1) = (permK seed i : Int) := by
  have := belowI_bd (n := (i : Int) + 1) (word_at seed i) (by omega)
  unfold permK; omega
def swapI (l : List Int) (i k : Nat) : List Int := (l.set i (ig l k)).set k (ig l i)
def permFrom (seed : Int) : Nat → List Int → List Int
  | 0, l => l
  | i + 1, l => permFrom seed i (swapI l (i + 1) (permK seed (i + 1)))
def upto (n : Nat) : List Int := (List.range n).map Int.ofNat
/-- Numbers in another order. -/
def permI (seed : Int) (n : Nat) : List Int := permFrom seed (n - 1) (upto n)
/-- How many of them. -/
def permLen (n : Int) : Nat := (min (max n 0) 4096).toNat
theorem len_swap (l : List Int) (i k : Nat) : (swapI l i k).length = l.length := by simp [swapI]
theorem len_from (seed : Int) (i : Nat) : ∀ l, (permFrom seed i l).length = l.length := by
  induction i with
  | zero => intro l; rfl
  | succ i ih => intro l; rw [permFrom, ih, len_swap]
theorem len_perm (seed : Int) (n : Nat) : (permI seed n).length = n := by simp [permI, len_from, upto]
theorem len_upto (n : Nat) : (upto n).length = n := by simp [upto]
theorem upto_succ (k : Nat) : upto (k + 1) = upto k ++ [(k : Int)] := by simp [upto, List.range_succ]
theorem permLen_eq (n : Int) : permLen n = (min (max n 0) 4096).toNat := rfl
end Go.Proofs.Ytgcoecibhonfnaa
