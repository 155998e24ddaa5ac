/- Plain laws of package vec: squares, sums of squares, sums of products. -/
import Derived.Test.YtpcbfoddlpgdjaaMem
import Derived.Test.YtpcbfoddlpgdjaaRngP
namespace Go.Proofs.Ytpcbfoddlpgdjaa
open Go.RowKit
/-- What two components differ by, times itself. -/
def sqN (x y : Int) : Nat := (x - y).natAbs * (x - y).natAbs
theorem sqN_cast (x y : Int) : ((sqN x y : Nat) : Int) = (x - y) * (x - y) := by
  unfold sqN; rw [Int.natCast_mul, ← Int.natAbs_mul_self]; simp
theorem sqN_comm (x y : Int) : sqN x y = sqN y x := by
  unfold sqN; rw [show (x - y).natAbs = (y - x).natAbs by omega]
theorem sqN_le {x y : Int} {d : Nat} (h : (x - y).natAbs ≤ d) : sqN x y ≤ d * d := Nat.mul_le_mul h h
/-- The squares of the first k places, together. -/
def dsq (xs ys : List Int) : Nat → Nat
  | 0 => 0
  | k + 1 => dsq xs ys k + sqN (ig xs k) (ig ys k)
theorem dsq_comm (xs ys : List Int) : ∀ k, dsq xs ys k = dsq ys xs k := by
  intro k
  induction k with
  | zero => rfl
  | succ k ih => rw [dsq, dsq, ih, sqN_comm]
theorem dsq_mono (xs ys : List Int) {i j : Nat} (h : i ≤ j) : dsq xs ys i ≤ dsq xs ys j := by
  induction j with
  | zero => obtain rfl : i = 0 := by omega
            exact Nat.le_refl _
  | succ j ih =>
    rcases Nat.lt_or_ge i (j + 1) with q | q
    · exact Nat.le_trans (ih (by omega)) (Nat.le_add_right _ _)
    · obtain rfl : i = j + 1 := by omega
      exact Nat.le_refl _
/-- A squared distance, held at the greatest number. -/
def distE (xs ys : List Int) : Nat := min (dsq xs ys (max xs.length ys.length)) 18446744073709551615
theorem distE_comm (xs ys : List Int) : distE xs ys = distE ys xs := by unfold distE; rw [dsq_comm, Nat.max_comm]
/-- The products of the first k places, together. -/
def dotS (xs ys : List Int) : Nat → Int
  | 0 => 0
  | k + 1 => dotS xs ys k + ig xs k * ig ys k
def dotE (xs ys : List Int) : Int := IntKind.i64.wrap (dotS xs ys (min xs.length ys.length))
theorem wrap_sq (x y : Int) (hx : -2147483648 ≤ x ∧ x ≤ 2147483647) (hy : -2147483648 ≤ y ∧ y ≤ 2147483647) :
    IntKind.u64.wrap (IntKind.u64.wrap (x - y) * IntKind.u64.wrap (x - y)) = (sqN x y : Nat) := by
  have h1 : (x - y).natAbs ≤ 4294967295 := by omega
  have h2 : sqN x y ≤ 4294967295 * 4294967295 := sqN_le h1
  rw [wrap_u64, wrap_u64, ← Int.mul_emod, ← sqN_cast]
  omega
/-- The carry, as math/bits.Add64 finds it. -/
theorem carry_law (x y s : Nat) (hx : x < 18446744073709551616) (hy : y < 18446744073709551616) (hs : s = (x + y) % 18446744073709551616) :
    ((x &&& y) ||| ((x ||| y) &&& (18446744073709551615 - s))) / 9223372036854775808 = (x + y) / 18446744073709551616 := by
  have hs64 : s < 18446744073709551616 := by omega
  have hor : x ||| y < 2 ^ 64 := Nat.or_lt_two_pow hx hy
  have hN : ((x &&& y) ||| ((x ||| y) &&& (18446744073709551615 - s))) < 2 ^ 64 := Nat.or_lt_two_pow (Nat.lt_of_le_of_lt Nat.and_le_left hx) (Nat.lt_of_le_of_lt Nat.and_le_left hor)
  have top : ∀ n : Nat, n < 18446744073709551616 → n.testBit 63 = decide (9223372036854775808 ≤ n) := fun n hn => by
    rw [Nat.testBit_eq_decide_div_mod_eq, decide_eq_decide]
    show n / 9223372036854775808 % 2 = 1 ↔ _
    omega
  have e : ((x &&& y) ||| ((x ||| y) &&& (18446744073709551615 - s))).testBit 63 = decide (18446744073709551616 ≤ x + y) := by
    rw [Nat.testBit_or, Nat.testBit_and, Nat.testBit_and, Nat.testBit_or, top x hx, top y hy, top (18446744073709551615 - s) (by omega)]
    by_cases h1 : 9223372036854775808 ≤ x <;> by_cases h2 : 9223372036854775808 ≤ y <;> by_cases h3 : 18446744073709551616 ≤ x + y <;> simp [h1, h2, h3] <;> omega
  obtain ⟨N, hNe⟩ : ∃ N, ((x &&& y) ||| ((x ||| y) &&& (18446744073709551615 - s))) = N := ⟨_, rfl⟩
  rw [hNe] at hN e ⊢
  rw [top N hN] at e
  have hN2 : N < 18446744073709551616 := hN
  rw [decide_eq_decide] at e
  omega
/-- A vector's component may be. -/
def compB (x : Int) : Bool := decide (x < -16777216) || decide (16777216 < x)
/-- Whether a vector is right. -/
def chkV (xs : List Int) (dim : Int) : Bool := decide (1 ≤ dim ∧ dim ≤ 4096 ∧ (xs.length : Int) = dim) && !(xs.any compB)
end Go.Proofs.Ytpcbfoddlpgdjaa
