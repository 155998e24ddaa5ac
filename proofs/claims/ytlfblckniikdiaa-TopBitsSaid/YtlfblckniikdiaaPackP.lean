/- Plain laws of package pack: widths, parts of words, words of parts. -/
import Derived.Test.YtlfblckniikdiaaLitP
namespace Go.Proofs.Ytlfblckniikdiaa
open Go.RowKit
/-- Whether widths may be, 'left' bits being left. -/
def wideF : List Int → Int → Bool
  | [], _ => true
  | n :: ns, left => if n < 1 ∨ left < n then false else wideF ns (left - n)
/-- The same, as the document counts: 'all' bits are given away. -/
def wideR : List Int → Int → Bool
  | [], all => decide (all ≤ 64)
  | n :: ns, all => if n < 1 ∨ 64 < n ∨ 64 < all then false else wideR ns (all + n)
theorem wideR_over (l : List Int) (all : Int) (h : 64 < all) : wideR l all = false := by
  cases l with
  | nil => simp [wideR]; omega
  | cons n ns => rw [wideR, if_pos (by omega)]
theorem wideR_eq : ∀ (l : List Int) (all : Int), 0 ≤ all → all ≤ 64 → wideR l all = wideF l (64 - all) := by
  intro l
  induction l with
  | nil => intro all h0 h1; simp [wideR, wideF]; omega
  | cons n ns ih =>
    intro all h0 h1
    rw [wideR, wideF]
    by_cases h : n < 1 ∨ 64 - all < n
    · rw [if_pos h]
      by_cases h' : n < 1 ∨ 64 < n ∨ 64 < all
      · rw [if_pos h']
      · rw [if_neg h']; exact wideR_over _ _ (by omega)
    · rw [if_neg h, if_neg (by omega), ih _ (by omega) (by omega), show 64 - all - n = 64 - (all + n) by omega]
theorem wideF_len : ∀ (l : List Int) (left : Int), 0 ≤ left → wideF l left = true → (l.length : Int) ≤ left := by
  intro l
  induction l with
  | nil => intro left h0 _; simpa using h0
  | cons n ns ih =>
    intro left h0 h
    rw [wideF] at h
    split at h
    · cases h
    · rename_i hn
      have := ih (left - n) (by omega) h
      simp; omega
/-- The parts of a word. -/
def fieldsF : Nat → List Int → List Int
  | _, [] => []
  | w, n :: ns => ((w % 2 ^ n.toNat : Nat) : Int) :: fieldsF (w / 2 ^ n.toNat) ns
theorem fields_len : ∀ (ns : List Int) (w : Nat), (fieldsF w ns).length = ns.length := by
  intro ns
  induction ns with
  | nil => intro w; rfl
  | cons n ns ih => intro w; simp [fieldsF, ih]
/-- The word of parts; none: one of them is too wide. -/
def joinF : Nat → Nat → List Int → List Int → Option Nat
  | acc, _, [], _ => some acc
  | acc, _, _ :: _, [] => some acc
  | acc, at_, x :: xs, n :: ns => if x.toNat < 2 ^ n.toNat then joinF (acc + x.toNat * 2 ^ at_) (at_ + n.toNat) xs ns else none
theorem low_law {v n : Nat} (h1 : n ≤ 64) : IntKind.u64.wrap ((v : Int) * 2 ^ (64 - n)) / 2 ^ (64 - n) = ((v % 2 ^ n : Nat) : Int) := by
  have e : (v : Int) * 2 ^ (64 - n) = ((v * 2 ^ (64 - n) : Nat) : Int) := by simp
  have e2 : (2 : Int) ^ (64 - n) = ((2 ^ (64 - n) : Nat) : Int) := by simp
  rw [e, wrap_nat, e2, ← Int.natCast_ediv]
  congr 1
  have e3 : (18446744073709551616 : Nat) = 2 ^ n * 2 ^ (64 - n) := by rw [← Nat.pow_add, show n + (64 - n) = 64 by omega]
  rw [e3, Nat.mul_mod_mul_right, Nat.mul_div_cancel _ (Nat.two_pow_pos _)]
/-- One bit more of a part. -/
theorem part_step {v f n j : Nat} (hj : j < n) : 2 * (v / 2 ^ f % 2 ^ n / 2 ^ (j + 1)) + v / 2 ^ (f + j) % 2 = v / 2 ^ f % 2 ^ n / 2 ^ j := by
  have e1 : v / 2 ^ (f + j) = v / 2 ^ f / 2 ^ j := by rw [Nat.div_div_eq_div_mul, Nat.pow_add]
  have e2 : v / 2 ^ f % 2 ^ n / 2 ^ j = v / 2 ^ f / 2 ^ j % 2 ^ (n - j) := by
    rw [show (2 ^ n : Nat) = 2 ^ j * 2 ^ (n - j) by rw [← Nat.pow_add, show j + (n - j) = n by omega], Nat.mod_mul_right_div_self]
  have e3 : v / 2 ^ f % 2 ^ n / 2 ^ (j + 1) = v / 2 ^ f % 2 ^ n / 2 ^ j / 2 := by rw [Nat.div_div_eq_div_mul, Nat.pow_succ]
  have e4 : v / 2 ^ f / 2 ^ j % 2 ^ (n - j) % 2 = v / 2 ^ f / 2 ^ j % 2 := by
    rw [show (2 ^ (n - j) : Nat) = 2 * 2 ^ (n - j - 1) by rw [Nat.mul_comm, ← Nat.pow_succ]; congr 1; omega, Nat.mod_mul_right_mod]
  rw [e3, e1, ← e4, ← e2]
  omega
def zigF (n : Int) : Int := if 0 ≤ n then 2 * n else 2 * (-(n + 1)) + 1
def zagF (n : Nat) : Int := if n % 2 = 0 then ((n / 2 : Nat) : Int) else - ((n / 2 : Nat) : Int) - 1
theorem ones64 : BitVec.ofInt 64 (-1) = BitVec.allOnes 64 := by decide
theorem xor_ones (a : Nat) (ha : a < 18446744073709551616) : bits .xor .u64 (a : Int) 18446744073709551615 = 18446744073709551615 - a := by
  show IntKind.u64.wrap ((BitVec.ofInt 64 (a : Int) ^^^ BitVec.ofInt 64 18446744073709551615).toNat : Int) = _
  rw [show BitVec.ofInt 64 18446744073709551615 = BitVec.allOnes 64 by decide, BitVec.xor_allOnes, BitVec.toNat_not, ofInt_u64 a ha, wrap_u64]
  omega
theorem xor_none (a : Nat) (ha : a < 18446744073709551616) : bits .xor .u64 (a : Int) 0 = a := by
  rw [show (0 : Int) = ((0 : Nat) : Int) by rfl, u64_xor_nat a 0 ha (by decide), Nat.xor_zero]
theorem ixor_ones (a : Nat) (ha : a < 9223372036854775808) : bits .xor .i64 (a : Int) (-1) = -(a : Int) - 1 := by
  show IntKind.i64.wrap ((BitVec.ofInt 64 (a : Int) ^^^ BitVec.ofInt 64 (-1)).toNat : Int) = _
  rw [ones64, BitVec.xor_allOnes, BitVec.toNat_not, ofInt_u64 a (by omega), IntKind.wrap_i64]
  omega
theorem ixor_none (a : Nat) (ha : a < 9223372036854775808) : bits .xor .i64 (a : Int) 0 = a := by
  show IntKind.i64.wrap ((BitVec.ofInt 64 (a : Int) ^^^ BitVec.ofInt 64 0).toNat : Int) = _
  rw [show BitVec.ofInt 64 0 = 0#64 by decide, BitVec.xor_zero, ofInt_u64 a (by omega), IntKind.wrap_i64]
  omega
theorem zig_law (n : Int) (h0 : -9223372036854775808 ≤ n) (h1 : n ≤ 9223372036854775807) :
    bits .xor .u64 (IntKind.u64.wrap (IntKind.u64.wrap n * 2)) (IntKind.u64.wrap (n / 9223372036854775808)) = zigF n := by
  unfold zigF
  rw [wrap_u64, wrap_u64, wrap_u64]
  split
  · rw [show (n / 9223372036854775808) % 18446744073709551616 = 0 by omega]
    obtain ⟨m, rfl⟩ := Int.eq_ofNat_of_zero_le (show 0 ≤ n by assumption)
    rw [show ((m : Int) % 18446744073709551616 * 2 % 18446744073709551616) = ((2 * m : Nat) : Int) by omega, xor_none _ (by omega)]
    omega
  · rw [show (n / 9223372036854775808) % 18446744073709551616 = 18446744073709551615 by omega]
    obtain ⟨m, hm⟩ := Int.eq_ofNat_of_zero_le (show 0 ≤ (n % 18446744073709551616 * 2 % 18446744073709551616) by omega)
    rw [hm, xor_ones _ (by omega), ← hm]
    omega
theorem zag_law (n : Nat) (h : n < 18446744073709551616) :
    bits .xor .i64 ((n : Int) / 2) (wrap64 (-wrap64 (bits .and .u64 (n : Int) 1))) = zagF n := by
  unfold zagF
  rw [show bits .and .u64 (n : Int) 1 = ((n % 2 : Nat) : Int) by rw [show (1 : Int) = ((1 : Nat) : Int) by rfl, u64_and_nat n 1 h (by decide), nat_mask1], show (n : Int) / 2 = ((n / 2 : Nat) : Int) by omega]
  split
  · rename_i e
    rw [e, show wrap64 (-wrap64 ((0 : Nat) : Int)) = 0 by decide +kernel, ixor_none _ (by omega)]
  · rw [show n % 2 = 1 by omega, show wrap64 (-wrap64 ((1 : Nat) : Int)) = -1 by decide +kernel, ixor_ones _ (by omega)]
end Go.Proofs.Ytlfblckniikdiaa
