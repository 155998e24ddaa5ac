/- Walks of package pack and of its reference: widths, parts. -/
import Derived.Test.YtlfblckniikdiaaMem
import Derived.Test.YtlfblckniikdiaaPackP
import Derived.Lib.MinMax
namespace Go.Proofs.Ytlfblckniikdiaa
open Go.RowKit
theorem drop_ig {l : List Int} {k : Nat} (h : k < l.length) : l.drop k = ig l k :: l.drop (k + 1) := by
  rw [List.drop_eq_getElem_cons h, ig, List.getD_eq_getElem?_getD, List.getElem?_eq_getElem h]; rfl
theorem take_set {l : List Int} {k : Nat} {u : Int} (h : k < l.length) : (l.set k u).take (k + 1) = l.take k ++ [u] := by
  rw [take_step (by rw [List.length_set]; exact h), ig_set h, if_pos rfl, List.take_set_of_le (Nat.le_refl k)]
set_option maxRecDepth 100000 in
set_option maxHeartbeats 1000000 in
theorem pack_low (v n : Nat) (h1 : n ≤ 64) (w : World) :
    Calls Try.prog 34 #[.int .u64 v, .int .i64 n] w fun e w' => e = .returned (.int .u64 ((v % 2 ^ n : Nat) : Int)) ∧ w = w' := by
  have hl := low_law (v := v) h1
  go_enter Try.func34, Try.ntmps34
  go_wp2
  go_ret
  exact ⟨by simp, rfl⟩
set_option maxRecDepth 100000 in
set_option maxHeartbeats 1000000 in
theorem pack_wide (A : Option Addr) (m c : Nat) (zs : List Int) (w : World) (hr : Rd w w.heap.size A m (zs.map (.int .i64))) (hm : m ≤ 100) :
    Calls Try.prog 33 #[.slice A m c] w fun e w' => e = .returned (.bool (wideF zs 64)) ∧ w = w' := by
  have HR := Lib.hid hr
  have HL := Lib.hid hr.lenI
  clear hr
  go_enter Try.func33, Try.ntmps33
  go_wp2
  go_loop [3, 8] (fun x i => ∃ (left k : Nat), k ≤ m ∧ left ≤ 64 ∧ x = .int .i64 left ∧ i = .int .i64 k ∧ Hid (wideF (zs.drop k) left = wideF zs 64)) (fun _ i => m - (intOf i).toNat)
  case atStart => exact ⟨64, 0, Nat.zero_le _, by decide, rfl, rfl, rfl⟩
  case round =>
    obtain ⟨left, k, hk, hleft, rfl, rfl, hv⟩ := hrel
    by_cases hlt : k < m
    · obtain ⟨b, o, rfl, hb, hc⟩ := HR.out.atI hlt
      have HD := Lib.hid (drop_ig (l := zs) (k := k) (by rw [HL.out]; exact hlt))
      obtain ⟨z, hz⟩ : ∃ z, ig zs k = z := ⟨_, rfl⟩
      rw [hz] at hc HD
      clear hz
      by_cases h1 : z < 1
      · have HV : Hid (wideF zs 64 = false) := by show _ = _; rw [← hv.out, HD.out, wideF, if_pos (by omega)]
        have t1 : decide (z < 1) = true := by simp; omega
        clear h1
        go_wp2
        go_ret
        exact ⟨ret_bool HV.out.symm, rfl⟩
      · have t1 : decide (z < 1) = false := by simp; omega
        by_cases h2 : (left : Int) < z
        · have HV : Hid (wideF zs 64 = false) := by show _ = _; rw [← hv.out, HD.out, wideF, if_pos (by omega)]
          have t2 : decide ((left : Int) < z) = true := by simp; omega
          clear h1 h2
          go_wp2
          go_ret
          exact ⟨ret_bool HV.out.symm, rfl⟩
        · have t2 : decide ((left : Int) < z) = false := by simp; omega
          obtain ⟨x, hx⟩ := Int.eq_ofNat_of_zero_le (show 0 ≤ (left : Int) - z by omega)
          have HV : Hid (wideF (zs.drop (k + 1)) x = wideF zs 64) := by show _ = _; rw [← hv.out, HD.out, wideF, if_neg (by omega), hx]
          go_wp2
          go_round
          case rel => exact ⟨x, k + 1, by omega, by omega, by first | rfl | rw [hx], by go_num, HV.out⟩
          case measure => simp [intOf]; omega
    · have HV : Hid (wideF zs 64 = true) := by show _ = _; rw [← hv.out, List.drop_of_length_le (by have := HL.out; omega)]; rfl
      go_wp2
      go_ret
      exact ⟨ret_bool HV.out.symm, rfl⟩
theorem part_val {v y s : Nat} (hv : v < 18446744073709551616) (hy : 2 * y + v / 2 ^ s % 2 < 18446744073709551616) :
    IntKind.u64.wrap (IntKind.u64.wrap (2 * (y : Int)) + bits .and .u64 ((v : Int) / 2 ^ s) 1) = ((2 * y + v / 2 ^ s % 2 : Nat) : Int) := by
  have e2 : (v : Int) / 2 ^ s = ((v / 2 ^ s : Nat) : Int) := by simp
  have hlt : v / 2 ^ s < 18446744073709551616 := Nat.lt_of_le_of_lt (Nat.div_le_self _ _) hv
  rw [e2, show (1 : Int) = ((1 : Nat) : Int) by rfl, u64_and_nat _ 1 hlt (by decide), nat_mask1, wrap_u64, wrap_u64]
  omega
end Go.Proofs.Ytlfblckniikdiaa
