/- Walks of package bitset: cuts, bits, whether a number is there. -/
import Derived.Test.YtlmgfbhgamchgaaBitO
namespace Go.Proofs.Ytlmgfbhgamchgaa
open Go.RowKit
theorem Rd.take_ {w : World} {B m : Nat} {A : Option Addr} {xs : List Value} (h : Rd w B A m xs) (k : Nat) (hk : k ≤ m) : Rd w B A k (xs.take k) := by
  refine ⟨by rw [List.length_take, h.1]; omega, fun hn => ?_⟩
  obtain ⟨b, o, e, hb, hc⟩ := h.2 (by omega)
  refine ⟨b, o, e, hb, fun j u hu => hc j u ?_⟩
  rw [List.getElem?_take] at hu
  split at hu
  · exact hu
  · cases hu
set_option maxRecDepth 100000 in
theorem bit_cut (A : Option Addr) (m c k : Nat) (hk : k = min m 64) (hc : m ≤ c) (hz : A = none → c = 0) (w : World) :
    Calls Try.prog 28 #[.slice A m c] w fun e w' => e = .returned (.slice A k c) ∧ w = w' := by
  have e : (min (m : Int) 64) = ((k : Nat) : Int) := by omega
  have h1 : k ≤ c := by omega
  clear hk
  cases A with
  | none =>
    obtain rfl := hz rfl
    obtain rfl : k = 0 := by omega
    clear hz
    go_enter Try.func28, Try.ntmps28
    go_wp2
    go_ret
    exact ⟨rfl, rfl⟩
  | some a =>
    clear hz
    go_enter Try.func28, Try.ntmps28
    go_wp2
    go_ret
    exact ⟨rfl, rfl⟩
theorem wrap_eq127 (v : Nat) (hv : v < 18446744073709551616) : bits .and .i64 (wrap64 (v : Int)) 127 = ((v % 128 : Nat) : Int) := by
  have e1 : (BitVec.ofInt 64 (wrap64 (v : Int))).toNat = v := by
    rw [BitVec.toNat_ofInt]
    unfold wrap64
    omega
  have e2 : (BitVec.ofInt 64 (127 : Int)).toNat = 127 := by decide
  show IntKind.i64.wrap ((BitVec.ofInt 64 (wrap64 (v : Int)) &&& BitVec.ofInt 64 127).toNat : Int) = _
  rw [BitVec.toNat_and, e1, e2, show (127 : Nat) = 2 ^ 7 - 1 by rfl, Nat.and_two_pow_sub_one_eq_mod, IntKind.wrap_i64]
  omega
set_option maxRecDepth 100000 in
theorem bits_ones (x : Nat) (hx : x < 18446744073709551616) (w : World) :
    Calls Try.prog 49 #[.int .u64 x] w fun e w' => e = .returned (.int .i64 (popN x)) ∧ w = w' := by
  obtain ⟨hs, hd, hlt⟩ := swar_spec x
  obtain ⟨l1, l2, l3, l4⟩ := swar_last (swar x) hd hlt
  have la : ∀ a m : Nat, a < 18446744073709551616 → a &&& m < 18446744073709551616 := fun a m h => Nat.lt_of_le_of_lt Nat.and_le_left h
  have and_ (a m : Nat) (ha : a < 18446744073709551616) (hm : m < 18446744073709551616) : bits .and .u64 (a : Int) (m : Int) = ((a &&& m : Nat) : Int) := u64_and_nat a m ha hm
  have wr (n : Nat) (h : n < 18446744073709551616) : IntKind.u64.wrap (n : Int) = (n : Int) := wrap_word (word_of_nat h)
  have dv (a k : Nat) : ((a : Int) / (k : Int)) = ((a / k : Nat) : Int) := by omega
  obtain ⟨a, ha⟩ : ∃ a, (x / 2 &&& 6148914691236517205) + (x &&& 6148914691236517205) = a := ⟨_, rfl⟩
  obtain ⟨b, hb⟩ : ∃ b, (a / 4 &&& 3689348814741910323) + (a &&& 3689348814741910323) = b := ⟨_, rfl⟩
  have hsw : (b / 16 + b) &&& 1085102592571150095 = swar x := by rw [← hb, ← ha]; rfl
  have m5 : ∀ n : Nat, n &&& 6148914691236517205 ≤ 6148914691236517205 := fun n => Nat.and_le_right
  have m3 : ∀ n : Nat, n &&& 3689348814741910323 ≤ 3689348814741910323 := fun n => Nat.and_le_right
  have a64 : a < 18446744073709551616 := by have := m5 (x / 2); have := m5 x; omega
  have b64 : b < 8000000000000000000 := by have := m3 (a / 4); have := m3 a; omega
  have ea : IntKind.u64.wrap (bits .and .u64 ((x : Int) / 2) 6148914691236517205 + bits .and .u64 (x : Int) 6148914691236517205) = (a : Int) := by
    rw [show ((x : Int) / 2) = ((x / 2 : Nat) : Int) from dv x 2, show (6148914691236517205 : Int) = ((6148914691236517205 : Nat) : Int) from rfl, and_ _ _ (by omega) (by decide), and_ _ _ hx (by decide), ← Int.natCast_add, ha, wr _ a64]
  have eb : IntKind.u64.wrap (bits .and .u64 ((a : Int) / 4) 3689348814741910323 + bits .and .u64 (a : Int) 3689348814741910323) = (b : Int) := by
    rw [show ((a : Int) / 4) = ((a / 4 : Nat) : Int) from dv a 4, show (3689348814741910323 : Int) = ((3689348814741910323 : Nat) : Int) from rfl, and_ _ _ (by omega) (by decide), and_ _ _ a64 (by decide), ← Int.natCast_add, hb, wr _ (by omega)]
  obtain ⟨s, hs'⟩ : ∃ s, swar x = s := ⟨_, rfl⟩
  rw [hs'] at hs hd hlt hsw l1 l2 l3 l4
  have ec : bits .and .u64 (IntKind.u64.wrap ((b : Int) / 16 + (b : Int))) 1085102592571150095 = (s : Int) := by
    rw [show ((b : Int) / 16) = ((b / 16 : Nat) : Int) from dv b 16, ← Int.natCast_add, wr _ (by omega), show (1085102592571150095 : Int) = ((1085102592571150095 : Nat) : Int) from rfl, and_ _ _ (by omega) (by decide), hsw]
  obtain ⟨t, ht⟩ : ∃ t, s + s / 256 = t := ⟨_, rfl⟩
  have ed : IntKind.u64.wrap ((s : Int) + (s : Int) / 256) = (t : Int) := by
    rw [show ((s : Int) / 256) = ((s / 256 : Nat) : Int) from dv s 256, ← Int.natCast_add, ht, wr _ (by omega)]
  rw [ht] at l1 l2 l3 l4
  obtain ⟨u, hu⟩ : ∃ u, t + t / 65536 = u := ⟨_, rfl⟩
  have ee : IntKind.u64.wrap ((t : Int) + (t : Int) / 65536) = (u : Int) := by
    rw [show ((t : Int) / 65536) = ((t / 65536 : Nat) : Int) from dv t 65536, ← Int.natCast_add, hu, wr _ (by omega)]
  rw [hu] at l1 l3 l4
  obtain ⟨v, hv⟩ : ∃ v, u + u / 4294967296 = v := ⟨_, rfl⟩
  have ef : IntKind.u64.wrap ((u : Int) + (u : Int) / 4294967296) = (v : Int) := by
    rw [show ((u : Int) / 4294967296) = ((u / 4294967296 : Nat) : Int) from dv u 4294967296, ← Int.natCast_add, hv, wr _ (by omega)]
  rw [hv] at l1 l4
  have eg : bits .and .i64 (wrap64 (v : Int)) 127 = ((popN x : Nat) : Int) := by
    have hp := pop_le x
    rw [wrap_eq127 v (by omega)]
    omega
  have HA := Lib.hid ea
  have HB := Lib.hid eb
  have HC := Lib.hid ec
  have HD := Lib.hid ed
  have HE := Lib.hid ee
  have HF := Lib.hid ef
  have HG := Lib.hid eg
  clear ea eb ec ed ee ef eg hs hd hlt l1 l2 l3 l4 ha hb hsw hs' ht hu hv and_ wr dv la m5 m3 hx a64 b64
  go_enter Try.func49, Try.ntmps49
  go_wp2
  go_ret
  refine ⟨ret_int ?_, rfl⟩
  rw [HA.out, HB.out, HC.out, HD.out, HE.out, HF.out, HG.out]
set_option maxRecDepth 100000 in
theorem bit_has (A : Option Addr) (m c : Nat) (ws : List Int) (L : Nat) (n : Int) (hn : n ≤ 9223372036854775807) (w : World) (hr : Rd w L A m (ws.map (.int .u64))) (hw : ∀ z ∈ ws, Word z) (hc : m ≤ c) (hz : A = none → c = 0) :
    Calls Try.prog 9 #[.slice A m c, .int .i64 n] w fun e w' => e = .returned (.bool (hasE ws n)) ∧ w = w' := by
  obtain ⟨k, hk⟩ : ∃ k, k = min m 64 := ⟨_, rfl⟩
  have hcut := fun w => bit_cut A m c k hk hc hz w
  have HL : Hid (ws.length = m) := hr.lenI
  by_cases h0 : 0 ≤ n
  · obtain ⟨n, rfl⟩ := Int.eq_ofNat_of_zero_le h0
    obtain ⟨q, hq⟩ : ∃ q, n / 64 = q := ⟨_, rfl⟩
    obtain ⟨r, hr'⟩ : ∃ r, n % 64 = r := ⟨_, rfl⟩
    have hq' : (n : Int) / 64 = (q : Int) := by omega
    have hr'' : (n : Int) % 64 = (r : Int) := by omega
    have hr64 : r < 64 := by omega
    by_cases h1 : q < k
    · obtain ⟨b, o, rfl, _, hcell⟩ := hr.atI (k := q) (by omega)
      obtain ⟨e, hlt⟩ := wg_nat hw q
      rw [e] at hcell
      have HE : Hid (hasE ws n = (wg ws q).testBit r) := by
        show _ = _; unfold hasE hasB; rw [Int.toNat_natCast, hq, hr']; simp; omega
      obtain ⟨x, hx⟩ : ∃ x, wg ws q = x := ⟨_, rfl⟩
      rw [hx] at hcell hlt HE
      have HX : Hid ((bits .and .u64 ((x : Int) / 2 ^ r) 1 != 0) = x.testBit r) := by
        show _ = _
        rw [show (x : Int) / 2 ^ r = ((x / 2 ^ r : Nat) : Int) by simp, show (1 : Int) = ((1 : Nat) : Int) by rfl, u64_and_nat _ _ (Nat.lt_of_le_of_lt (Nat.div_le_self _ _) hlt) (by decide), Nat.and_one_is_mod, Nat.testBit_eq_decide_div_mod_eq]
        rcases Nat.mod_two_eq_zero_or_one (x / 2 ^ r) with h | h <;> rw [h] <;> rfl
      clear hx e hr hk hq hr' hlt
      go_enter Try.func9, Try.ntmps9
      go_wp2_with (go_at_call 28; refine (hcut _).mono ?_; rintro e w' ⟨rfl, rfl⟩)
      go_ret
      refine ⟨ret_bool ?_, rfl⟩
      rw [HE.out, ← HX.out]
    · have HE : Hid (hasE ws n = false) := by
        show _ = _; unfold hasE; rw [Int.toNat_natCast]
        by_cases h2 : n < 4096
        · rw [hasB_out (by rw [HL.out]; omega)]; simp
        · simp; omega
      have t : decide ((q : Int) < (k : Int)) = false := by simp; omega
      clear hr hk hq hr'
      go_enter Try.func9, Try.ntmps9
      go_wp2_with (go_at_call 28; refine (hcut _).mono ?_; rintro e w' ⟨rfl, rfl⟩)
      go_ret
      exact ⟨ret_bool HE.out.symm, rfl⟩
  · have HE : Hid (hasE ws n = false) := by
      show _ = _; unfold hasE; simp; omega
    have t : decide (0 ≤ n) = false := by simp; omega
    clear hr hk
    go_enter Try.func9, Try.ntmps9
    go_wp2_with (go_at_call 28; refine (hcut _).mono ?_; rintro e w' ⟨rfl, rfl⟩)
    go_ret
    exact ⟨ret_bool HE.out.symm, rfl⟩
end Go.Proofs.Ytlmgfbhgamchgaa
