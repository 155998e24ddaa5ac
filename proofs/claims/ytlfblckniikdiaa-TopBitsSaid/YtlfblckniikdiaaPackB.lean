/- Plain laws of package pack: parts of a word joined are the word's low bits, and what was put into a word is read. -/
import Derived.Test.YtlfblckniikdiaaPackK
import Derived.Test.YtlfblckniikdiaaPackN
import Derived.Laws.BitsAllLaws
namespace Go.Proofs.Ytlfblckniikdiaa
open Go.RowKit
/-- How many bits the widths have together. -/
def totF : List Int → Nat
  | [] => 0
  | n :: ns => n.toNat + totF ns
theorem join_fields : ∀ (ns : List Int) (w acc at_ : Nat), joinF acc at_ (fieldsF w ns) ns = some (acc + w % 2 ^ totF ns * 2 ^ at_) := by
  intro ns
  induction ns with
  | nil => intro w acc at_; simp [fieldsF, joinF, totF, Nat.mod_one]
  | cons n ns ih =>
    intro w acc at_
    rw [fieldsF, joinF, if_pos (by rw [Int.toNat_natCast]; exact Nat.mod_lt _ (Nat.two_pow_pos _)), ih, totF, Int.toNat_natCast, Nat.pow_add (2 : Nat) n.toNat, Nat.mod_mul, Nat.pow_add (2 : Nat) at_, Nat.add_mul]
    congr 1
    rw [Nat.add_assoc, Nat.mul_comm (2 ^ at_), Nat.mul_comm (2 ^ n.toNat) (w / 2 ^ n.toNat % 2 ^ totF ns), Nat.mul_assoc]
theorem fields_mod : ∀ (ns : List Int) (w : Nat), fieldsF (w % 2 ^ totF ns) ns = fieldsF w ns := by
  intro ns
  induction ns with
  | nil => intro w; rfl
  | cons n ns ih =>
    intro w
    rw [fieldsF, fieldsF, totF, Nat.pow_add, Nat.mod_mul_right_mod, Nat.mod_mul_right_div_self, ih]
theorem joinE_fields {w : Nat} {ns : List Int} (h : wideF ns 64 = true) : joinE (fieldsF w ns) ns = (((w % 2 ^ totF ns : Nat) : Int), 0) :=
  joinE_some h (fields_len ns w) (by rw [join_fields]; simp)
theorem word_fields (ns : List Int) (w : Nat) (hw : w < 18446744073709551616) : ∀ z ∈ fieldsF w ns, Word z := by
  induction ns generalizing w with
  | nil => intro z h; cases h
  | cons n ns ih =>
    intro z h
    rw [fieldsF] at h
    rcases List.mem_cons.1 h with rfl | h
    · exact word_of_nat (Nat.lt_of_le_of_lt (Nat.mod_le _ _) hw)
    · exact ih _ (Nat.lt_of_le_of_lt (Nat.div_le_self _ _) hw) z h
/-- The low bits of a word, without the word's, are none. -/
theorem low_andnot (w t : Nat) (hw : w < 18446744073709551616) : bits .andNot .u64 ((w % 2 ^ t : Nat) : Int) (w : Int) = 0 := by
  rw [u64_andNot_nat _ _ (Nat.lt_of_le_of_lt (Nat.mod_le _ _) hw) hw]
  congr 1
  apply Nat.eq_of_testBit_eq
  intro i
  rw [Nat.testBit_and, Nat.testBit_mod_two_pow, show 18446744073709551615 - w = 2 ^ 64 - (w + 1) by omega, Nat.testBit_two_pow_sub_succ hw, Nat.zero_testBit]
  cases w.testBit i <;> simp
theorem zagzig (n : Int) (h0 : -9223372036854775808 ≤ n) (h1 : n ≤ 9223372036854775807) : zagF (zigF n).toNat = n ∧ 0 ≤ zigF n ∧ zigF n < 18446744073709551616 := by
  unfold zagF zigF
  split <;> split <;> omega
theorem zigzag (v : Nat) (hv : v < 18446744073709551616) : zigF (zagF v) = v ∧ -9223372036854775808 ≤ zagF v ∧ zagF v ≤ 9223372036854775807 := by
  unfold zagF zigF
  split <;> split <;> omega
end Go.Proofs.Ytlfblckniikdiaa
