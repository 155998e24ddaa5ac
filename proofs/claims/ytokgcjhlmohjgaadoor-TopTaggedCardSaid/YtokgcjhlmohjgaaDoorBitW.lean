/- Walks of package bitset: cuts, bits, whether a number is there. -/
import Derived.Test.YtokgcjhlmohjgaaDoorBitO
namespace Go.Proofs.YtokgcjhlmohjgaaDoor
open Go.RowKit
theorem Rd.take_ {w : World} {B m : Nat} {A : Option Addr} {xs : List Value} (h : Rd w B A m xs) (k : Nat) (hk : k ≤ m) : Rd w B A k (xs.take k) := by
  refine ⟨by rw [List.length_take, h.1]; omega, fun hn => ?_⟩
  obtain ⟨b, o, e, hb, hc⟩ := h.2 (by omega)
  refine ⟨b, o, e, hb, fun j u hu => hc j u ?_⟩
  rw [List.getElem?_take] at hu
  split at hu
  · exact hu
  · cases hu
set_option maxRecDepth 100000 in
theorem bit_cut (A : Option Addr) (m c k : Nat) (hk : k = min m 64) (hc : m ≤ c) (hz : A = none → c = 0) (w : World) :
    Calls Tryd.prog 37 #[.slice A m c] w fun e w' => e = .returned (.slice A k c) ∧ w = w' := by
  have e : (min (m : Int) 64) = ((k : Nat) : Int) := by omega
  have h1 : k ≤ c := by omega
  clear hk
  cases A with
  | none =>
    obtain rfl := hz rfl
    obtain rfl : k = 0 := by omega
    clear hz
    go_enter Tryd.func37, Tryd.ntmps37
    go_wp2
    go_ret
    exact ⟨rfl, rfl⟩
  | some a =>
    clear hz
    go_enter Tryd.func37, Tryd.ntmps37
    go_wp2
    go_ret
    exact ⟨rfl, rfl⟩
theorem wrap_eq127 (v : Nat) (hv : v < 18446744073709551616) : bits .and .i64 (wrap64 (v : Int)) 127 = ((v % 128 : Nat) : Int) := by
  have e1 : (BitVec.ofInt 64 (wrap64 (v : Int))).toNat = v := by
    rw [BitVec.toNat_ofInt]
    unfold wrap64
    omega
  have e2 : (BitVec.ofInt 64 (127 : Int)).toNat = 127 := by decide
  show IntKind.i64.wrap ((BitVec.ofInt 64 (wrap64 (v : Int)) &&& BitVec.ofInt 64 127).toNat : Int) = _
  rw [BitVec.toNat_and, e1, e2, show (127 : Nat) = 2 ^ 7 - 1 by rfl, Nat.and_two_pow_sub_one_eq_mod, IntKind.wrap_i64]
  omega
set_option maxRecDepth 100000 in
theorem bits_ones (x : Nat) (hx : x < 18446744073709551616) (w : World) :
    Calls Tryd.prog 24 #[.int .u64 x] w fun e w' => e = .returned (.int .i64 (popN x)) ∧ w = w' := by
  obtain ⟨hs, hd, hlt⟩ := swar_spec x
  obtain ⟨l1, l2, l3, l4⟩ := swar_last (swar x) hd hlt
  have la : ∀ a m : Nat, a < 18446744073709551616 → a &&& m < 18446744073709551616 := fun a m h => Nat.lt_of_le_of_lt Nat.and_le_left h
  have and_ (a m : Nat) (ha : a < 18446744073709551616) (hm : m < 18446744073709551616) : bits .and .u64 (a : Int) (m : Int) = ((a &&& m : Nat) : Int) := u64_and_nat a m ha hm
  have wr (n : Nat) (h : n < 18446744073709551616) : IntKind.u64.wrap (n : Int) = (n : Int) := wrap_word (word_of_nat h)
  have dv (a k : Nat) : ((a : Int) / (k : Int)) = ((a / k : Nat) : Int) := by omega
  obtain ⟨a, ha⟩ : ∃ a, (x / 2 &&& 6148914691236517205) + (x &&& 6148914691236517205) = a := ⟨_, rfl⟩
  obtain ⟨b, hb⟩ : ∃ b, (a / 4 &&& 3689348814741910323) + (a &&& 3689348814741910323) = b := ⟨_, rfl⟩
  have hsw : (b / 16 + b) &&& 1085102592571150095 = swar x := by rw [← hb, ← ha]; rfl
  have m5 : ∀ n : Nat, n &&& 6148914691236517205 ≤ 6148914691236517205 := fun n => Nat.and_le_right
  have m3 : ∀ n : Nat, n &&& 3689348814741910323 ≤ 3689348814741910323 := fun n => Nat.and_le_right
  have a64 : a < 18446744073709551616 := by have := m5 (x / 2); have := m5 x; omega
  have b64 : b < 8000000000000000000 := by have := m3 (a / 4); have := m3 a; omega
  have ea : IntKind.u64.wrap (bits .and .u64 ((x : Int) / 2) 6148914691236517205 + bits .and .u64 (x : Int) 6148914691236517205) = (a : Int) := by
    rw [show ((x : Int) / 2) = ((x / 2 : Nat) : Int) from dv x 2, show (6148914691236517205 : Int) = ((6148914691236517205 : Nat) : Int) from rfl, and_ _ _ (by omega) (by decide), and_ _ _ hx (by decide), ← Int.natCast_add, ha, wr _ a64]
  have eb : IntKind.u64.wrap (bits .and .u64 ((a : Int) / 4) 3689348814741910323 + bits .and .u64 (a : Int) 3689348814741910323) = (b : Int) := by
    rw [show ((a : Int) / 4) = ((a / 4 : Nat) : Int) from dv a 4, show (3689348814741910323 : Int) = ((3689348814741910323 : Nat) : Int) from rfl, and_ _ _ (by omega) (by decide), and_ _ _ a64 (by decide), ← Int.natCast_add, hb, wr _ (by omega)]
  obtain ⟨s, hs'⟩ : ∃ s, swar x = s := ⟨_, rfl⟩
  rw [hs'] at hs hd hlt hsw l1 l2 l3 l4
  have ec : bits .and .u64 (IntKind.u64.wrap ((b : Int) / 16 + (b : Int))) 1085102592571150095 = (s : Int) := by
    rw [show ((b : Int) / 16) = ((b / 16 : Nat) : Int) from dv b 16, ← Int.natCast_add, wr _ (by omega), show (1085102592571150095 : Int) = ((1085102592571150095 : Nat) : Int) from rfl, and_ _ _ (by omega) (by decide), hsw]
  obtain ⟨t, ht⟩ : ∃ t, s + s / 256 = t := ⟨_, rfl⟩
  have ed : IntKind.u64.wrap ((s : Int) + (s : Int) / 256) = (t : Int) := by
    rw [show ((s : Int) / 256) = ((s / 256 : Nat) : Int) from dv s 256, ← Int.natCast_add, ht, wr _ (by omega)]
  rw [ht] at l1 l2 l3 l4
  obtain ⟨u, hu⟩ : ∃ u, t + t / 65536 = u := ⟨_, rfl⟩
  have ee : IntKind.u64.wrap ((t : Int) + (t : Int) / 65536) = (u : Int) := by
    rw [show ((t : Int) / 65536) = ((t / 65536 : Nat) : Int) from dv t 65536, ← Int.natCast_add, hu, wr _ (by omega)]
  rw [hu] at l1 l3 l4
  obtain ⟨v, hv⟩ : ∃ v, u + u / 4294967296 = v := ⟨_, rfl⟩
  have ef : IntKind.u64.wrap ((u : Int) + (u : Int) / 4294967296) = (v : Int) := by
    rw [show ((u : Int) / 4294967296) = ((u / 4294967296 : Nat) : Int) from dv u 4294967296, ← Int.natCast_add, hv, wr _ (by omega)]
  rw [hv] at l1 l4
  have eg : bits .and .i64 (wrap64 (v : Int)) 127 = ((popN x : Nat) : Int) := by
    have hp := pop_le x
    rw [wrap_eq127 v (by omega)]
    omega
  have HA := Lib.hid ea
  have HB := Lib.hid eb
  have HC := Lib.hid ec
  have HD := Lib.hid ed
  have HE := Lib.hid ee
  have HF := Lib.hid ef
  have HG := Lib.hid eg
  clear ea eb ec ed ee ef eg hs hd hlt l1 l2 l3 l4 ha hb hsw hs' ht hu hv and_ wr dv la m5 m3 hx a64 b64
  go_enter Tryd.func24, Tryd.ntmps24
  go_wp2
  go_ret
  refine ⟨ret_int ?_, rfl⟩
  rw [HA.out, HB.out, HC.out, HD.out, HE.out, HF.out, HG.out]
end Go.Proofs.YtokgcjhlmohjgaaDoor
