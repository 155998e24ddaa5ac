/- Plain laws of package rng: what its number functions compute, as the walks spell it, and what holds of that: mixed is had back. No program in sight. -/
import Derived.WalkKit
namespace Go.Proofs.YtillmlaoppibfaaDoor
open Go.RowKit

/-- rng.Mix, as the walk has it. -/
def mixI (x : Int) : Int :=
  let a := IntKind.u64.wrap (x + 11400714819323198485)
  let b := IntKind.u64.wrap (bits .xor .u64 a (a / 1073741824) * 13787848793156543929)
  let c := IntKind.u64.wrap (bits .xor .u64 b (b / 134217728) * 10723151780598845931)
  bits .xor .u64 c (c / 2147483648)
def rmixI (x : Int) : Int :=
  let a := IntKind.u64.wrap (x + 11400714819323198485)
  let b := IntKind.u64.wrap (bits .xor .u64 a (IntKind.u64.wrap (a.tdiv 1073741824)) * 13787848793156543929)
  let c := IntKind.u64.wrap (bits .xor .u64 b (IntKind.u64.wrap (b.tdiv 134217728)) * 10723151780598845931)
  bits .xor .u64 c (IntKind.u64.wrap (c.tdiv 2147483648))
def unshI (z n : Int) : Int :=
  let z1 := bits .xor .u64 z (z / 2 ^ n.toNat)
  bits .xor .u64 z1 (z1 / 2 ^ (n * 2).toNat)
def runshI (z n : Int) : Int :=
  let z1 := bits .xor .u64 z (z / 2 ^ n.toNat)
  let z2 := bits .xor .u64 z (z1 / 2 ^ n.toNat)
  bits .xor .u64 z (z2 / 2 ^ n.toNat)
/-- One step towards the number that, times an odd one, is 1. -/
def turnI (odd x : Int) : Int := IntKind.u64.wrap (x * IntKind.u64.wrap (2 - IntKind.u64.wrap (odd * x)))
def turnN (odd : Int) : Nat → Int | 0 => odd | k + 1 => turnI odd (turnN odd k)
def unmixI (z : Int) : Int :=
  IntKind.u64.wrap (unshI (IntKind.u64.wrap (unshI (IntKind.u64.wrap (unshI z 31 * turnN 10723151780598845931 5)) 27 * turnN 13787848793156543929 5)) 30 - 11400714819323198485)
def runmixI (z : Int) : Int :=
  IntKind.u64.wrap (runshI (IntKind.u64.wrap (runshI (IntKind.u64.wrap (runshI z 31 * turnN 10723151780598845931 6)) 27 * turnN 13787848793156543929 6)) 30 - 11400714819323198485)
def atI (seed n : Int) : Int := mixI (IntKind.u64.wrap (seed + IntKind.u64.wrap (n * 11400714819323198485)))
def ratI (seed n : Int) : Int := rmixI (IntKind.u64.wrap (seed + IntKind.u64.wrap (n * 11400714819323198485)))
/-- What is below a number. -/
def belowI (x n : Int) : Int := x * n / 18446744073709551616

/-- A word: a number of 64 bits. -/
def Word (x : Int) : Prop := 0 ≤ x ∧ x < 18446744073709551616
theorem wrap_u64 (n : Int) : IntKind.u64.wrap n = n % 18446744073709551616 := by simp [IntKind.wrap, IntKind.bits, IntKind.signed]
theorem word_wrap (n : Int) : Word (IntKind.u64.wrap n) := by rw [wrap_u64]; exact ⟨by omega, by omega⟩
theorem word_nat {x : Int} (h : Word x) : ∃ n : Nat, x = n ∧ n < 18446744073709551616 := by
  obtain ⟨h0, h1⟩ := h
  exact ⟨x.toNat, by omega, by omega⟩
theorem word_of_nat {n : Nat} (h : n < 18446744073709551616) : Word (n : Int) := ⟨by omega, by omega⟩
theorem word_small {x : Int} (h0 : 0 ≤ x) (h1 : x < 9223372036854775808) : Word x := ⟨h0, by omega⟩
theorem wrap_word {x : Int} (h : Word x) : IntKind.u64.wrap x = x := by
  obtain ⟨h0, h1⟩ := h
  rw [wrap_u64]; omega

/-- An exclusive or with a number's own high bits, over natural numbers. -/
def xsN (n z : Nat) : Nat := z ^^^ (z >>> n)
def unshN (n z : Nat) : Nat := (z ^^^ (z >>> n)) ^^^ ((z ^^^ (z >>> n)) >>> (n * 2))
theorem xsN_lt {z : Nat} (n : Nat) (h : z < 18446744073709551616) : xsN n z < 18446744073709551616 := by
  unfold xsN
  have h2 : z >>> n < 2 ^ 64 := Nat.lt_of_le_of_lt (Nat.shiftRight_le z n) h
  exact Nat.xor_lt_two_pow (n := 64) h h2
theorem xs_nat (a : Nat) (k : Nat) (h : a < 18446744073709551616) : bits .xor .u64 (a : Int) ((a : Int) / 2 ^ k) = ((xsN k a : Nat) : Int) := by
  have e : (a : Int) / 2 ^ k = ((a / 2 ^ k : Nat) : Int) := by
    rw [Int.natCast_ediv]; simp
  rw [e, u64_xor_nat a _ h (Nat.lt_of_le_of_lt (Nat.div_le_self a _) h), xsN, Nat.shiftRight_eq_div_pow]
theorem unsh_nat (a : Nat) (n : Nat) (h : a < 18446744073709551616) : unshI (a : Int) (n : Int) = ((unshN n a : Nat) : Int) := by
  have e : ((n : Int) * 2).toNat = n * 2 := by omega
  simp only [unshI, Int.toNat_natCast, e]
  rw [xs_nat a n h]
  have h1 := xsN_lt n h
  rw [xs_nat _ (n * 2) h1]
  rfl
theorem bit_high {z : Nat} (h : z < 18446744073709551616) {i : Nat} (hi : 64 ≤ i) : z.testBit i = false :=
  Nat.testBit_lt_two_pow (Nat.lt_of_lt_of_le (show z < 2 ^ 64 from h) (Nat.pow_le_pow_right (by decide) hi))
theorem unsh_xs {n z : Nat} (hn : 22 ≤ n) (h : z < 18446744073709551616) : unshN n (xsN n z) = z := by
  apply Nat.eq_of_testBit_eq
  intro i
  simp only [unshN, xsN, Nat.testBit_xor, Nat.testBit_shiftRight]
  have a3 : z.testBit (n + (n + (n * 2 + i))) = false := bit_high h (by omega)
  have e1 : n + (n + i) = n * 2 + i := by omega
  rw [e1, a3]
  cases z.testBit i <;> cases z.testBit (n + i) <;> cases z.testBit (n * 2 + i) <;> cases z.testBit (n + (n * 2 + i)) <;> rfl
theorem xs_unsh {n z : Nat} (hn : 22 ≤ n) (h : z < 18446744073709551616) : xsN n (unshN n z) = z := by
  apply Nat.eq_of_testBit_eq
  intro i
  simp only [unshN, xsN, Nat.testBit_xor, Nat.testBit_shiftRight]
  have e1 : n + (n + i) = n * 2 + i := by omega
  have e2 : n * 2 + (n + i) = n + (n * 2 + i) := by omega
  have a3 : z.testBit (n + (n * 2 + i)) = false := bit_high h (by omega)
  have a4 : z.testBit (n + (n + (n * 2 + i))) = false := bit_high h (by omega)
  rw [e2, e1, a3, a4]
  cases z.testBit i <;> cases z.testBit (n + i) <;> cases z.testBit (n * 2 + i) <;> rfl
theorem runsh_nat (a : Nat) (n : Nat) (hn : 22 ≤ n) (h : a < 18446744073709551616) : runshI (a : Int) (n : Int) = ((unshN n a : Nat) : Int) := by
  have h1 := xsN_lt n h
  have sh (b : Nat) (hb : b < 18446744073709551616) : bits .xor .u64 (a : Int) ((b : Int) / 2 ^ n) = ((a ^^^ (b >>> n) : Nat) : Int) := by
    have e : (b : Int) / 2 ^ n = ((b / 2 ^ n : Nat) : Int) := by
      rw [Int.natCast_ediv]; simp
    rw [e, u64_xor_nat a _ h (Nat.lt_of_le_of_lt (Nat.div_le_self b _) hb), Nat.shiftRight_eq_div_pow]
  have lt2 (b : Nat) (hb : b < 18446744073709551616) : a ^^^ (b >>> n) < 18446744073709551616 :=
    Nat.xor_lt_two_pow (n := 64) h (Nat.lt_of_le_of_lt (Nat.shiftRight_le b n) hb)
  simp only [runshI, Int.toNat_natCast]
  rw [sh a h, sh _ (lt2 a h), sh _ (lt2 _ (lt2 a h))]
  congr 1
  apply Nat.eq_of_testBit_eq
  intro i
  simp only [unshN, Nat.testBit_xor, Nat.testBit_shiftRight]
  have e1 : n + (n + i) = n * 2 + i := by omega
  have e3 : n + (n * 2 + i) = n * 2 + (n + i) := by omega
  rw [show n + (n + (n + i)) = n + (n * 2 + i) by omega, e1, e3]
  have a3 : a.testBit (n * 2 + (n + i)) = false := bit_high h (by omega)
  rw [a3]
  cases a.testBit i <;> cases a.testBit (n + i) <;> cases a.testBit (n * 2 + i) <;> rfl
theorem unshN_lt {z : Nat} (n : Nat) (h : z < 18446744073709551616) : unshN n z < 18446744073709551616 := xsN_lt (n * 2) (xsN_lt n h)

theorem turn1 : turnN 13787848793156543929 5 = ((10871156337175269513 : Nat) : Int) := by decide +kernel
theorem turn2 : turnN 10723151780598845931 5 = ((3573116690164977347 : Nat) : Int) := by decide +kernel
theorem turn1' : turnN 13787848793156543929 6 = ((10871156337175269513 : Nat) : Int) := by decide +kernel
theorem turn2' : turnN 10723151780598845931 6 = ((3573116690164977347 : Nat) : Int) := by decide +kernel

def mixN (x : Nat) : Nat :=
  xsN 31 (xsN 27 (xsN 30 ((x + 11400714819323198485) % 18446744073709551616) * 13787848793156543929 % 18446744073709551616) * 10723151780598845931 % 18446744073709551616)
def unmixN (z : Nat) : Nat :=
  (unshN 30 (unshN 27 (unshN 31 z * 3573116690164977347 % 18446744073709551616) * 10871156337175269513 % 18446744073709551616) + 7046029254386353131) % 18446744073709551616
theorem mod_lt' (n : Nat) : n % 18446744073709551616 < 18446744073709551616 := Nat.mod_lt _ (by decide)
theorem wrap_nat (n : Nat) : IntKind.u64.wrap (n : Int) = ((n % 18446744073709551616 : Nat) : Int) := by rw [wrap_u64]; omega
theorem mstep (a : Nat) (h : a < 18446744073709551616) (k m : Nat) :
    IntKind.u64.wrap (bits .xor .u64 (a : Int) ((a : Int) / 2 ^ k) * (m : Int)) = ((xsN k a * m % 18446744073709551616 : Nat) : Int) := by
  rw [xs_nat a k h]; exact wrap_nat (xsN k a * m)
theorem mixI_nat (x : Nat) : mixI (x : Int) = ((mixN x : Nat) : Int) := by
  have e1 : IntKind.u64.wrap ((x : Int) + 11400714819323198485) = (((x + 11400714819323198485) % 18446744073709551616 : Nat) : Int) := wrap_nat (x + 11400714819323198485)
  have e2 := mstep ((x + 11400714819323198485) % 18446744073709551616) (mod_lt' _) 30 13787848793156543929
  have e3 := mstep _ (mod_lt' (xsN 30 ((x + 11400714819323198485) % 18446744073709551616) * 13787848793156543929)) 27 10723151780598845931
  have e4 := xs_nat _ 31 (mod_lt' (xsN 27 (xsN 30 ((x + 11400714819323198485) % 18446744073709551616) * 13787848793156543929 % 18446744073709551616) * 10723151780598845931))
  simp only [mixI, e1]
  rw [show (1073741824 : Int) = 2 ^ 30 by decide, show (134217728 : Int) = 2 ^ 27 by decide, show (2147483648 : Int) = 2 ^ 31 by decide]
  rw [show (13787848793156543929 : Int) = ((13787848793156543929 : Nat) : Int) by rfl, e2, show (10723151780598845931 : Int) = ((10723151780598845931 : Nat) : Int) by rfl, e3, e4]
  rfl
theorem mixN_lt (x : Nat) : mixN x < 18446744073709551616 := xsN_lt 31 (mod_lt' _)
theorem word_mix (x : Nat) : Word (mixI (x : Int)) := by rw [mixI_nat]; exact word_of_nat (mixN_lt x)
theorem word_mixI {x : Int} (h : Word x) : Word (mixI x) := by
  obtain ⟨n, rfl, _⟩ := word_nat h
  exact word_mix n
theorem quo_word (a : Int) (k : Int) (h : Word a) (hk : 1 ≤ k) : IntKind.u64.wrap (a.tdiv k) = a / k := IntWalk.u64_quo a k ⟨h.1, by have := h.2; omega, hk⟩
theorem word_xor (a b : Int) (ha : Word a) (hb : Word b) : Word (bits .xor .u64 a b) := by
  obtain ⟨n, rfl, hn⟩ := word_nat ha
  obtain ⟨m, rfl, hm⟩ := word_nat hb
  rw [u64_xor_nat n m hn hm]
  exact word_of_nat (Nat.xor_lt_two_pow (n := 64) hn hm)
theorem rmixI_eq (x : Int) : rmixI x = mixI x := by
  simp only [rmixI, mixI]
  rw [quo_word _ _ (word_wrap _) (by decide), quo_word _ _ (word_wrap _) (by decide), quo_word _ _ (word_wrap _) (by decide)]
theorem ratI_eq (s n : Int) : ratI s n = atI s n := rmixI_eq _
theorem word_at (s n : Int) : Word (atI s n) := word_mixI (word_wrap _)
theorem unmixI_nat (z : Nat) (h : z < 18446744073709551616) : unmixI (z : Int) = ((unmixN z : Nat) : Int) := by
  simp only [unmixI, turn1, turn2]
  rw [show (31 : Int) = ((31 : Nat) : Int) by rfl, show (27 : Int) = ((27 : Nat) : Int) by rfl, show (30 : Int) = ((30 : Nat) : Int) by rfl]
  rw [unsh_nat z 31 h, show ((unshN 31 z : Nat) : Int) * ((3573116690164977347 : Nat) : Int) = ((unshN 31 z * 3573116690164977347 : Nat) : Int) by simp, wrap_nat,
    unsh_nat _ 27 (mod_lt' _), show ((unshN 27 (unshN 31 z * 3573116690164977347 % 18446744073709551616) : Nat) : Int) * ((10871156337175269513 : Nat) : Int) = ((unshN 27 (unshN 31 z * 3573116690164977347 % 18446744073709551616) * 10871156337175269513 : Nat) : Int) by simp, wrap_nat,
    unsh_nat _ 30 (mod_lt' _), wrap_u64, unmixN]
  omega
theorem runmixI_eq {z : Int} (h : Word z) : runmixI z = unmixI z := by
  obtain ⟨z, rfl, hz⟩ := word_nat h
  simp only [unmixI, runmixI, turn1, turn2, turn1', turn2']
  rw [show (31 : Int) = ((31 : Nat) : Int) by rfl, show (27 : Int) = ((27 : Nat) : Int) by rfl, show (30 : Int) = ((30 : Nat) : Int) by rfl]
  rw [unsh_nat z 31 hz, runsh_nat z 31 (by decide) hz, show ((unshN 31 z : Nat) : Int) * ((3573116690164977347 : Nat) : Int) = ((unshN 31 z * 3573116690164977347 : Nat) : Int) by simp, wrap_nat,
    unsh_nat _ 27 (mod_lt' _), runsh_nat _ 27 (by decide) (mod_lt' _), show ((unshN 27 (unshN 31 z * 3573116690164977347 % 18446744073709551616) : Nat) : Int) * ((10871156337175269513 : Nat) : Int) = ((unshN 27 (unshN 31 z * 3573116690164977347 % 18446744073709551616) * 10871156337175269513 : Nat) : Int) by simp, wrap_nat,
    unsh_nat _ 30 (mod_lt' _), runsh_nat _ 30 (by decide) (mod_lt' _)]
theorem unmixN_lt (z : Nat) : unmixN z < 18446744073709551616 := mod_lt' _
theorem mul_back (a m i : Nat) (h : a < 18446744073709551616) (hm : m * i % 18446744073709551616 = 1) : a * m % 18446744073709551616 * i % 18446744073709551616 = a := by
  rw [Nat.mod_mul_mod, Nat.mul_assoc, ← Nat.mul_mod_mod, hm, Nat.mul_one, Nat.mod_eq_of_lt h]
theorem unmix_mix {x : Nat} (h : x < 18446744073709551616) : unmixN (mixN x) = x := by
  unfold unmixN mixN
  rw [unsh_xs (n := 31) (by decide) (mod_lt' _), mul_back _ 10723151780598845931 _ (xsN_lt 27 (mod_lt' _)) (by decide), unsh_xs (n := 27) (by decide) (mod_lt' _),
    mul_back _ 13787848793156543929 _ (xsN_lt 30 (mod_lt' _)) (by decide), unsh_xs (n := 30) (by decide) (mod_lt' _)]
  omega
theorem mix_unmix {z : Nat} (h : z < 18446744073709551616) : mixN (unmixN z) = z := by
  unfold unmixN mixN
  have l1 := unshN_lt 31 h
  have l2 := unshN_lt 27 (mod_lt' (unshN 31 z * 3573116690164977347))
  have l3 := unshN_lt 30 (mod_lt' (unshN 27 (unshN 31 z * 3573116690164977347 % 18446744073709551616) * 10871156337175269513))
  have e : ((unshN 30 (unshN 27 (unshN 31 z * 3573116690164977347 % 18446744073709551616) * 10871156337175269513 % 18446744073709551616) + 7046029254386353131) % 18446744073709551616 + 11400714819323198485) % 18446744073709551616 = unshN 30 (unshN 27 (unshN 31 z * 3573116690164977347 % 18446744073709551616) * 10871156337175269513 % 18446744073709551616) := by omega
  rw [e, xs_unsh (n := 30) (by decide) (mod_lt' _), mul_back _ 10871156337175269513 _ l2 (by decide), xs_unsh (n := 27) (by decide) (mod_lt' _), mul_back _ 3573116690164977347 _ l1 (by decide), xs_unsh (n := 31) (by decide) h]
theorem unmixI_mixI {x : Int} (h : Word x) : unmixI (mixI x) = x := by
  obtain ⟨x, rfl, hx⟩ := word_nat h
  rw [mixI_nat, unmixI_nat _ (mixN_lt x), unmix_mix hx]
theorem mixI_unmixI {x : Int} (h : Word x) : mixI (unmixI x) = x := by
  obtain ⟨x, rfl, hx⟩ := word_nat h
  rw [unmixI_nat _ hx, mixI_nat, mix_unmix hx]
theorem word_unmixI {x : Int} (h : Word x) : Word (unmixI x) := by
  obtain ⟨x, rfl, hx⟩ := word_nat h
  rw [unmixI_nat _ hx]; exact word_of_nat (unmixN_lt x)

/-! ### What is below a number -/
theorem belowI_bd {x n : Int} (hx : Word x) (h0 : 0 ≤ n) : 0 ≤ belowI x n ∧ (0 < n → belowI x n < n) ∧ belowI x n ≤ n := by
  obtain ⟨a, b⟩ := hx
  have h1 : 0 ≤ x * n := Int.mul_nonneg a h0
  have h2 : x * n ≤ 18446744073709551615 * n := Int.mul_le_mul_of_nonneg_right (by omega) h0
  unfold belowI
  generalize x * n = y at *
  exact ⟨by omega, by omega, by omega⟩
theorem word_below {x n : Int} (hx : Word x) (hn : Word n) : Word (belowI x n) := by
  have := belowI_bd hx hn.1
  exact ⟨this.1, by have := hn.2; omega⟩
theorem belowI_mono {x y n : Int} (h : x ≤ y) (h0 : 0 ≤ n) : belowI x n ≤ belowI y n := by
  unfold belowI
  have := Int.mul_le_mul_of_nonneg_right h h0
  omega
end Go.Proofs.YtillmlaoppibfaaDoor
