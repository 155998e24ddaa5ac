/- Plain laws: how many bits a word has, as math/bits.OnesCount64 finds it. -/
import Derived.Test.YtlmgfbhgamchgaaBitP
import Derived.Laws.BitsAllLaws
namespace Go.Proofs.Ytlmgfbhgamchgaa
open Go.RowKit
/-- The sum of the j lowest digits of x. -/
def dsum (B : Nat) : Nat → Nat → Nat
  | 0, _ => 0
  | j + 1, x => x % B + dsum B j (x / B)
/-- Each of the j lowest digits is c at most. -/
def dle (B c : Nat) : Nat → Nat → Prop
  | 0, _ => True
  | j + 1, x => x % B ≤ c ∧ dle B c j (x / B)
/-- A mask: j times the digit m. -/
def msk (B m : Nat) : Nat → Nat
  | 0 => 0
  | j + 1 => B * msk B m j + m
theorem and_msk (k x M : Nat) : x &&& (2 ^ (2 * k) * M + (2 ^ k - 1)) = 2 ^ (2 * k) * (x / 2 ^ (2 * k) &&& M) + x % 2 ^ k := by
  have hp : 0 < 2 ^ k := Nat.two_pow_pos k
  have hle : 2 ^ k ≤ 2 ^ (2 * k) := Nat.pow_le_pow_right (by decide) (by omega)
  have hlt : x % 2 ^ k < 2 ^ (2 * k) := Nat.lt_of_lt_of_le (Nat.mod_lt _ hp) hle
  apply Nat.eq_of_testBit_eq
  intro i
  rw [Nat.testBit_and, Nat.testBit_two_pow_mul_add _ (by omega), Nat.testBit_two_pow_mul_add _ hlt]
  split
  · rw [Nat.testBit_two_pow_sub_one, Nat.testBit_mod_two_pow, Bool.and_comm]
  · rename_i h
    rw [Nat.testBit_and, Nat.testBit_div_two_pow, show i - 2 * k + 2 * k = i by omega]
/-- Two halves of each digit, added. -/
def gst (k j x : Nat) : Nat := (x / 2 ^ k &&& msk (2 ^ (2 * k)) (2 ^ k - 1) j) + (x &&& msk (2 ^ (2 * k)) (2 ^ k - 1) j)
theorem gst_succ (k j x : Nat) : gst k (j + 1) x = 2 ^ (2 * k) * gst k j (x / 2 ^ (2 * k)) + (x / 2 ^ k % 2 ^ k + x % 2 ^ k) := by
  unfold gst
  rw [msk, and_msk, and_msk, Nat.mul_add, show x / 2 ^ k / 2 ^ (2 * k) = x / 2 ^ (2 * k) / 2 ^ k by rw [Nat.div_div_eq_div_mul, Nat.div_div_eq_div_mul, Nat.mul_comm]]
  omega
theorem two_lt {k : Nat} (hk : 1 ≤ k) (a b : Nat) (ha : a < 2 ^ k) (hb : b < 2 ^ k) : a + b < 2 ^ (2 * k) := by
  rw [show 2 * k = k + k by omega, Nat.pow_add]
  have h2 : 2 ≤ 2 ^ k := Nat.pow_le_pow_right (n := 2) (by decide) hk
  have : 2 * 2 ^ k ≤ 2 ^ k * 2 ^ k := Nat.mul_le_mul_right _ h2
  omega
theorem gst_sum (k : Nat) (hk : 1 ≤ k) : ∀ (j x : Nat), dsum (2 ^ (2 * k)) j (gst k j x) = dsum (2 ^ k) (2 * j) x := by
  intro j
  induction j with
  | zero => intro x; rfl
  | succ j ih =>
    intro x
    have hp : 0 < 2 ^ k := Nat.two_pow_pos k
    have hlt := two_lt hk _ _ (Nat.mod_lt (x / 2 ^ k) hp) (Nat.mod_lt x hp)
    rw [dsum, gst_succ, Nat.mul_add_mod, Nat.mod_eq_of_lt hlt, Nat.mul_add_div (Nat.two_pow_pos _), Nat.div_eq_of_lt hlt, Nat.add_zero, ih, show 2 * (j + 1) = 2 * j + 1 + 1 by omega, dsum, dsum, Nat.div_div_eq_div_mul, ← Nat.pow_add, show k + k = 2 * k by omega]
    omega
theorem gst_le (k c : Nat) (hk : 1 ≤ k) : ∀ (j x : Nat), dle (2 ^ k) c (2 * j) x → dle (2 ^ (2 * k)) (2 * c) j (gst k j x) := by
  intro j
  induction j with
  | zero => intro x _; trivial
  | succ j ih =>
    intro x h
    have hp : 0 < 2 ^ k := Nat.two_pow_pos k
    have hlt := two_lt hk _ _ (Nat.mod_lt (x / 2 ^ k) hp) (Nat.mod_lt x hp)
    rw [show 2 * (j + 1) = 2 * j + 1 + 1 by omega, dle, dle, Nat.div_div_eq_div_mul, ← Nat.pow_add, show k + k = 2 * k by omega] at h
    rw [dle, gst_succ, Nat.mul_add_mod, Nat.mod_eq_of_lt hlt, Nat.mul_add_div (Nat.two_pow_pos _), Nat.div_eq_of_lt hlt, Nat.add_zero]
    exact ⟨by omega, ih _ h.2.2⟩
theorem dle_one : ∀ (j x : Nat), dle 2 1 j x := by
  intro j
  induction j with
  | zero => intro x; trivial
  | succ j ih => intro x; exact ⟨by omega, ih _⟩
/-- The last step of this kind: no digit runs over. -/
theorem hst_eq : ∀ (j x : Nat), dle 16 4 (2 * j) x → (x < 16 ^ (2 * j)) → (x / 16 + x) &&& msk 256 15 j = gst 4 j x := by
  intro j
  induction j with
  | zero => intro x _ _; simp [gst, msk]
  | succ j ih =>
    intro x h hx
    rw [show (256 : Nat) = 2 ^ (2 * 4) by rfl, show (15 : Nat) = 2 ^ 4 - 1 by rfl, msk, and_msk, gst_succ]
    rw [show 2 * (j + 1) = 2 * j + 1 + 1 by omega, dle, dle] at h
    obtain ⟨h1, h2, h3⟩ := h
    have hx' : x / 16 / 16 < 16 ^ (2 * j) := by
      rw [show 2 * (j + 1) = 2 * j + 1 + 1 by omega, Nat.pow_succ, Nat.pow_succ] at hx
      rw [Nat.div_div_eq_div_mul]
      exact Nat.div_lt_of_lt_mul (by omega)
    have h5 : x / 16 / 16 % 16 ≤ 15 := by omega
    have h4 : x / 16 / 16 % 16 ≤ 4 := by
      cases j with
      | zero =>
        have : x / 16 / 16 = 0 := by simpa using hx'
        omega
      | succ j =>
        rw [show 2 * (j + 1) = 2 * j + 1 + 1 by omega, dle] at h3
        exact h3.1
    have e3 : x / 16 / 16 = x / 256 := by omega
    have h6 : x / 256 % 16 ≤ 4 := by rw [← e3]; exact h4
    have e1 : (x / 16 + x) / 2 ^ (2 * 4) = x / 256 / 16 + x / 256 := by
      show (x / 16 + x) / 256 = _
      omega
    have e2 : (x / 16 + x) % 2 ^ 4 = x / 2 ^ 4 % 2 ^ 4 + x % 2 ^ 4 := by
      show (x / 16 + x) % 16 = x / 16 % 16 + x % 16
      omega
    rw [e3] at h3 hx'
    rw [e1, e2]
    have := ih (x / 256) h3 hx'
    rw [show (256 : Nat) = 2 ^ (2 * 4) by rfl, show (15 : Nat) = 2 ^ 4 - 1 by rfl] at this
    rw [this]
theorem dsum_bits : ∀ (j w : Nat), dsum 2 j w = ((List.range j).filter w.testBit).length := by
  intro j
  induction j with
  | zero => intro w; rfl
  | succ j ih =>
    intro w
    have e : w.testBit ∘ Nat.succ = (w / 2).testBit := by funext i; simp [Function.comp, Nat.testBit_succ]
    rw [dsum, ih, List.range_succ_eq_map, List.filter_cons, List.filter_map, e, Nat.testBit_zero]
    by_cases h : w % 2 = 1
    · simp [h]; omega
    · simp [h]; omega
/-- How many bits a word has. -/
def popN (w : Nat) : Nat := ((List.range 64).filter w.testBit).length
theorem pop_bits (w i : Nat) : (bitsL w i).length = popN w := by simp [bitsL, popN]
theorem pop_le (w : Nat) : popN w ≤ 64 := by unfold popN; exact Nat.le_trans (List.length_filter_le _ _) (by simp)
theorem msk1 : msk (2 ^ (2 * 1)) (2 ^ 1 - 1) 32 = 6148914691236517205 := by decide +kernel
theorem msk2 : msk (2 ^ (2 * 2)) (2 ^ 2 - 1) 16 = 3689348814741910323 := by decide +kernel
theorem msk4 : msk 256 15 8 = 1085102592571150095 := by decide +kernel
/-- The three steps with masks: eight digits of 256, each the bits of a byte. -/
def swar (w : Nat) : Nat :=
  let a := (w / 2 &&& 6148914691236517205) + (w &&& 6148914691236517205)
  let b := (a / 4 &&& 3689348814741910323) + (a &&& 3689348814741910323)
  (b / 16 + b) &&& 1085102592571150095
theorem gst_lt (k : Nat) (hk : 1 ≤ k) : ∀ (j x : Nat), gst k j x < 2 ^ (2 * k * j) := by
  intro j
  induction j with
  | zero => intro x; simp [gst, msk]
  | succ j ih =>
    intro x
    have hp : 0 < 2 ^ k := Nat.two_pow_pos k
    have hlt := two_lt hk _ _ (Nat.mod_lt (x / 2 ^ k) hp) (Nat.mod_lt x hp)
    have h1 := ih (x / 2 ^ (2 * k))
    rw [gst_succ, Nat.mul_succ, Nat.pow_add, Nat.mul_comm (2 ^ (2 * k * j))]
    have : 2 ^ (2 * k) * (gst k j (x / 2 ^ (2 * k)) + 1) ≤ 2 ^ (2 * k) * 2 ^ (2 * k * j) := Nat.mul_le_mul_left _ h1
    rw [Nat.mul_add, Nat.mul_one] at this
    omega
theorem swar_spec (w : Nat) : dsum 256 8 (swar w) = popN w ∧ dle 256 8 8 (swar w) ∧ swar w < 18446744073709551616 := by
  have ha : (w / 2 &&& 6148914691236517205) + (w &&& 6148914691236517205) = gst 1 32 w := by unfold gst; rw [msk1]
  have hb : ∀ a, (a / 4 &&& 3689348814741910323) + (a &&& 3689348814741910323) = gst 2 16 a := fun a => by unfold gst; rw [msk2]
  have d1 : dle 4 2 32 (gst 1 32 w) := gst_le 1 1 (by decide) 32 w (dle_one 64 w)
  have d2 : dle 16 4 16 (gst 2 16 (gst 1 32 w)) := gst_le 2 2 (by decide) 16 _ d1
  have l2 : gst 2 16 (gst 1 32 w) < 16 ^ 16 := gst_lt 2 (by decide) 16 _
  have e : swar w = gst 4 8 (gst 2 16 (gst 1 32 w)) := by
    unfold swar
    simp only
    rw [ha, hb, ← msk4]
    exact hst_eq 8 _ d2 l2
  rw [e]
  refine ⟨?_, gst_le 4 4 (by decide) 8 _ d2, gst_lt 4 (by decide) 8 _⟩
  have s1 := gst_sum 4 (by decide) 8 (gst 2 16 (gst 1 32 w))
  have s2 := gst_sum 2 (by decide) 16 (gst 1 32 w)
  have s3 := gst_sum 1 (by decide) 32 w
  exact (s1.trans (s2.trans s3)).trans (dsum_bits 64 w)
theorem div_is {n k Q : Nat} (R : Nat) (h : n = k * Q + R) (hR : R < k) : n / k = Q := by
  subst h; rw [Nat.mul_add_div (by omega), Nat.div_eq_of_lt hR, Nat.add_zero]
theorem mod_is {n k Q : Nat} (R : Nat) (h : n = k * Q + R) (hR : R < k) : n % k = R := by
  subst h; rw [Nat.mul_add_mod, Nat.mod_eq_of_lt hR]
theorem last_y (d0 d1 d2 d3 d4 d5 d6 d7 : Nat) (h0 : d0 ≤ 8) (h1 : d1 ≤ 8) (h2 : d2 ≤ 8) : (d0 + 256 * (d1 + 256 * (d2 + 256 * (d3 + 256 * (d4 + 256 * (d5 + 256 * (d6 + 256 * d7)))))) + (d1 + 256 * (d2 + 256 * (d3 + 256 * (d4 + 256 * (d5 + 256 * (d6 + 256 * d7))))))) / 65536 = (d2 + d3) + 256 * (d3 + d4) + 65536 * (d4 + d5) + 16777216 * (d5 + d6) + 4294967296 * (d6 + d7) + 1099511627776 * d7 :=
  div_is ((d0 + d1) + 256 * (d1 + d2)) (by clear h0 h1 h2; omega) (by omega)
theorem last_z (d0 d1 d2 d3 d4 d5 d6 d7 : Nat) (h0 : d0 ≤ 8) (h1 : d1 ≤ 8) (h2 : d2 ≤ 8) (h3 : d3 ≤ 8) (h4 : d4 ≤ 8) (h5 : d5 ≤ 8) (h6 : d6 ≤ 8) : (d0 + 256 * (d1 + 256 * (d2 + 256 * (d3 + 256 * (d4 + 256 * (d5 + 256 * (d6 + 256 * d7)))))) + (d1 + 256 * (d2 + 256 * (d3 + 256 * (d4 + 256 * (d5 + 256 * (d6 + 256 * d7)))))) + ((d2 + d3) + 256 * (d3 + d4) + 65536 * (d4 + d5) + 16777216 * (d5 + d6) + 4294967296 * (d6 + d7) + 1099511627776 * d7)) / 4294967296 = (d4 + d5 + d6 + d7) + 256 * (d5 + d6 + d7) + 65536 * (d6 + d7) + 16777216 * d7 :=
  div_is ((d0 + d1 + d2 + d3) + 256 * (d1 + d2 + d3 + d4) + 65536 * (d2 + d3 + d4 + d5) + 16777216 * (d3 + d4 + d5 + d6)) (by clear h0 h1 h2 h3 h4 h5 h6; omega) (by omega)
theorem last_m (d0 d1 d2 d3 d4 d5 d6 d7 : Nat) (h0 : d0 ≤ 8) (h1 : d1 ≤ 8) (h2 : d2 ≤ 8) (h3 : d3 ≤ 8) (h4 : d4 ≤ 8) (h5 : d5 ≤ 8) (h6 : d6 ≤ 8) (h7 : d7 ≤ 8) : (d0 + 256 * (d1 + 256 * (d2 + 256 * (d3 + 256 * (d4 + 256 * (d5 + 256 * (d6 + 256 * d7)))))) + (d1 + 256 * (d2 + 256 * (d3 + 256 * (d4 + 256 * (d5 + 256 * (d6 + 256 * d7)))))) + ((d2 + d3) + 256 * (d3 + d4) + 65536 * (d4 + d5) + 16777216 * (d5 + d6) + 4294967296 * (d6 + d7) + 1099511627776 * d7) + ((d4 + d5 + d6 + d7) + 256 * (d5 + d6 + d7) + 65536 * (d6 + d7) + 16777216 * d7)) % 128 = d0 + d1 + d2 + d3 + d4 + d5 + d6 + d7 :=
  mod_is (Q := 2 * ((d1 + d2 + d3 + d4 + d5 + d6 + d7) + 256 * (d2 + d3 + d4 + d5 + d6 + d7) + 65536 * (d3 + d4 + d5 + d6 + d7) + 16777216 * (d4 + d5 + d6 + d7) + 4294967296 * (d5 + d6 + d7) + 1099511627776 * (d6 + d7) + 281474976710656 * d7)) _ (by clear h0 h1 h2 h3 h4 h5 h6 h7; omega) (by omega)
theorem last_b (d0 d1 d2 d3 d4 d5 d6 d7 : Nat) (h0 : d0 ≤ 8) (h1 : d1 ≤ 8) (h2 : d2 ≤ 8) (h3 : d3 ≤ 8) (h4 : d4 ≤ 8) (h5 : d5 ≤ 8) (h6 : d6 ≤ 8) (h7 : d7 ≤ 8) : d0 + 256 * (d1 + 256 * (d2 + 256 * (d3 + 256 * (d4 + 256 * (d5 + 256 * (d6 + 256 * d7)))))) + (d1 + 256 * (d2 + 256 * (d3 + 256 * (d4 + 256 * (d5 + 256 * (d6 + 256 * d7)))))) < 18446744073709551616 ∧ d0 + 256 * (d1 + 256 * (d2 + 256 * (d3 + 256 * (d4 + 256 * (d5 + 256 * (d6 + 256 * d7)))))) + (d1 + 256 * (d2 + 256 * (d3 + 256 * (d4 + 256 * (d5 + 256 * (d6 + 256 * d7)))))) + ((d2 + d3) + 256 * (d3 + d4) + 65536 * (d4 + d5) + 16777216 * (d5 + d6) + 4294967296 * (d6 + d7) + 1099511627776 * d7) < 18446744073709551616 ∧ d0 + 256 * (d1 + 256 * (d2 + 256 * (d3 + 256 * (d4 + 256 * (d5 + 256 * (d6 + 256 * d7)))))) + (d1 + 256 * (d2 + 256 * (d3 + 256 * (d4 + 256 * (d5 + 256 * (d6 + 256 * d7)))))) + ((d2 + d3) + 256 * (d3 + d4) + 65536 * (d4 + d5) + 16777216 * (d5 + d6) + 4294967296 * (d6 + d7) + 1099511627776 * d7) + ((d4 + d5 + d6 + d7) + 256 * (d5 + d6 + d7) + 65536 * (d6 + d7) + 16777216 * d7) < 18446744073709551616 := ⟨by omega, by omega, by omega⟩
theorem swar_last (x : Nat) (h : dle 256 8 8 x) (hx : x < 18446744073709551616) :
    (x + x / 256 + (x + x / 256) / 65536 + (x + x / 256 + (x + x / 256) / 65536) / 4294967296) % 128 = dsum 256 8 x ∧
      x + x / 256 < 18446744073709551616 ∧ x + x / 256 + (x + x / 256) / 65536 < 18446744073709551616 ∧ x + x / 256 + (x + x / 256) / 65536 + (x + x / 256 + (x + x / 256) / 65536) / 4294967296 < 18446744073709551616 := by
  obtain ⟨d0, e0⟩ : ∃ d, x % 256 = d := ⟨_, rfl⟩
  obtain ⟨x1, f0⟩ : ∃ d, x / 256 = d := ⟨_, rfl⟩
  obtain ⟨d1, e1⟩ : ∃ d, x1 % 256 = d := ⟨_, rfl⟩
  obtain ⟨x2, f1⟩ : ∃ d, x1 / 256 = d := ⟨_, rfl⟩
  obtain ⟨d2, e2⟩ : ∃ d, x2 % 256 = d := ⟨_, rfl⟩
  obtain ⟨x3, f2⟩ : ∃ d, x2 / 256 = d := ⟨_, rfl⟩
  obtain ⟨d3, e3⟩ : ∃ d, x3 % 256 = d := ⟨_, rfl⟩
  obtain ⟨x4, f3⟩ : ∃ d, x3 / 256 = d := ⟨_, rfl⟩
  obtain ⟨d4, e4⟩ : ∃ d, x4 % 256 = d := ⟨_, rfl⟩
  obtain ⟨x5, f4⟩ : ∃ d, x4 / 256 = d := ⟨_, rfl⟩
  obtain ⟨d5, e5⟩ : ∃ d, x5 % 256 = d := ⟨_, rfl⟩
  obtain ⟨x6, f5⟩ : ∃ d, x5 / 256 = d := ⟨_, rfl⟩
  obtain ⟨d6, e6⟩ : ∃ d, x6 % 256 = d := ⟨_, rfl⟩
  obtain ⟨x7, f6⟩ : ∃ d, x6 / 256 = d := ⟨_, rfl⟩
  simp only [dle, dsum, e0, f0, e1, f1, e2, f2, e3, f3, e4, f4, e5, f5, e6, f6] at h ⊢
  obtain ⟨h0, h1, h2, h3, h4, h5, h6, h7, _⟩ := h
  have q6 : x6 = d6 + 256 * x7 := by rw [← e6, ← f6]; exact (Nat.mod_add_div _ _).symm
  have q5 : x5 = d5 + 256 * x6 := by rw [← e5, ← f5]; exact (Nat.mod_add_div _ _).symm
  have q4 : x4 = d4 + 256 * x5 := by rw [← e4, ← f4]; exact (Nat.mod_add_div _ _).symm
  have q3 : x3 = d3 + 256 * x4 := by rw [← e3, ← f3]; exact (Nat.mod_add_div _ _).symm
  have q2 : x2 = d2 + 256 * x3 := by rw [← e2, ← f2]; exact (Nat.mod_add_div _ _).symm
  have q1 : x1 = d1 + 256 * x2 := by rw [← e1, ← f1]; exact (Nat.mod_add_div _ _).symm
  have q0 : x = d0 + 256 * x1 := by rw [← e0, ← f0]; exact (Nat.mod_add_div _ _).symm
  clear e0 e1 e2 e3 e4 e5 e6 f0 f1 f2 f3 f4 f5 f6
  subst q6 q5 q4 q3 q2 q1 q0
  have g7 : x7 < 256 := by omega
  rw [Nat.mod_eq_of_lt g7] at h7 ⊢
  clear hx g7
  rw [last_y d0 d1 d2 d3 d4 d5 d6 x7 h0 h1 h2, last_z d0 d1 d2 d3 d4 d5 d6 x7 h0 h1 h2 h3 h4 h5 h6, last_m d0 d1 d2 d3 d4 d5 d6 x7 h0 h1 h2 h3 h4 h5 h6 h7]
  exact ⟨by omega, last_b d0 d1 d2 d3 d4 d5 d6 x7 h0 h1 h2 h3 h4 h5 h6 h7⟩
end Go.Proofs.Ytlmgfbhgamchgaa
