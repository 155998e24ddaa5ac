/- Walk of bitset.Next: the least number of a set from a number on. -/
import Derived.Test.YtokgcjhlmohjgaaDoorBitL
namespace Go.Proofs.YtokgcjhlmohjgaaDoor
open Go.RowKit
/-- The least number that has p, from n on; none. -/
def NextOK (p : Nat → Bool) (n : Int) (x : Int) (is : Bool) : Prop :=
  (∃ y : Nat, x = y ∧ is = true ∧ y < 4096 ∧ p y = true ∧ n ≤ y ∧ ∀ z : Nat, z < y → n ≤ z → p z = false) ∨ (x = 0 ∧ is = false ∧ ∀ z : Nat, z < 4096 → n ≤ z → p z = false)
theorem next_one {p : Nat → Bool} {n x x' : Int} {is is' : Bool} (h : NextOK p n x is) (h' : NextOK p n x' is') : x = x' ∧ is = is' := by
  rcases h with ⟨y, rfl, rfl, h1, h2, h3, h4⟩ | ⟨rfl, rfl, h1⟩ <;> rcases h' with ⟨y', rfl, rfl, g1, g2, g3, g4⟩ | ⟨rfl, rfl, g1⟩
  · refine ⟨?_, rfl⟩
    rcases Nat.lt_trichotomy y y' with q | q | q
    · have := g4 y q h3; rw [h2] at this; cases this
    · rw [q]
    · have := h4 y' q g3; rw [g2] at this; cases this
  · have := g1 y h1 h3; rw [h2] at this; cases this
  · have := h1 y' g1 g3; rw [g2] at this; cases this
  · exact ⟨rfl, rfl⟩
def NextRet (p : Nat → Bool) (n : Int) (w : World) (e : Ending) (w' : World) : Prop := ∃ x is, e = .returned (.tuple #[.int .i64 x, .bool is]) ∧ NextOK p n x is ∧ w = w'
theorem shl_shr (x r : Nat) (hx : x < 18446744073709551616) : x / 2 ^ r * 2 ^ r < 18446744073709551616 := Nat.lt_of_le_of_lt (Nat.div_mul_le_self x _) hx
theorem bit_masked (x r j : Nat) : (x / 2 ^ r * 2 ^ r).testBit j = (decide (r ≤ j) && x.testBit j) := by
  rw [Nat.testBit_mul_two_pow]
  by_cases h : r ≤ j
  · rw [Nat.testBit_div_two_pow, show j - r + r = j by omega]
  · simp [h]
end Go.Proofs.YtokgcjhlmohjgaaDoor
