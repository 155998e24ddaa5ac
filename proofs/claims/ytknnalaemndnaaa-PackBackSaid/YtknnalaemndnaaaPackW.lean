/- Walks of package pack and of its reference: widths, parts. -/
import Derived.Test.YtknnalaemndnaaaMem
import Derived.Test.YtknnalaemndnaaaPackP
import Derived.Lib.MinMax
namespace Go.Proofs.Ytknnalaemndnaaa
open Go.RowKit
theorem drop_ig {l : List Int} {k : Nat} (h : k < l.length) : l.drop k = ig l k :: l.drop (k + 1) := by
  rw [List.drop_eq_getElem_cons h, ig, List.getD_eq_getElem?_getD, List.getElem?_eq_getElem h]; rfl
theorem take_set {l : List Int} {k : Nat} {u : Int} (h : k < l.length) : (l.set k u).take (k + 1) = l.take k ++ [u] := by
  rw [take_step (by rw [List.length_set]; exact h), ig_set h, if_pos rfl, List.take_set_of_le (Nat.le_refl k)]
set_option maxRecDepth 100000 in
set_option maxHeartbeats 1000000 in
theorem pack_low (v n : Nat) (h1 : n ≤ 64) (w : World) :
    Calls Try.prog 90 #[.int .u64 v, .int .i64 n] w fun e w' => e = .returned (.int .u64 ((v % 2 ^ n : Nat) : Int)) ∧ w = w' := by
  have hl := low_law (v := v) h1
  go_enter Try.func90, Try.ntmps90
  go_wp2
  go_ret
  exact ⟨by simp, rfl⟩
set_option maxRecDepth 100000 in
set_option maxHeartbeats 1000000 in
theorem pack_wide (A : Option Addr) (m c : Nat) (zs : List Int) (w : World) (hr : Rd w w.heap.size A m (zs.map (.int .i64))) (hm : m ≤ 100) :
    Calls Try.prog 89 #[.slice A m c] w fun e w' => e = .returned (.bool (wideF zs 64)) ∧ w = w' := by
  have HR := Lib.hid hr
  have HL := Lib.hid hr.lenI
  clear hr
  go_enter Try.func89, Try.ntmps89
  go_wp2
  go_loop [3, 8] (fun x i => ∃ (left k : Nat), k ≤ m ∧ left ≤ 64 ∧ x = .int .i64 left ∧ i = .int .i64 k ∧ Hid (wideF (zs.drop k) left = wideF zs 64)) (fun _ i => m - (intOf i).toNat)
  case atStart => exact ⟨64, 0, Nat.zero_le _, by decide, rfl, rfl, rfl⟩
  case round =>
    obtain ⟨left, k, hk, hleft, rfl, rfl, hv⟩ := hrel
    by_cases hlt : k < m
    · obtain ⟨b, o, rfl, hb, hc⟩ := HR.out.atI hlt
      have HD := Lib.hid (drop_ig (l := zs) (k := k) (by rw [HL.out]; exact hlt))
      obtain ⟨z, hz⟩ : ∃ z, ig zs k = z := ⟨_, rfl⟩
      rw [hz] at hc HD
      clear hz
      by_cases h1 : z < 1
      · have HV : Hid (wideF zs 64 = false) := by show _ = _; rw [← hv.out, HD.out, wideF, if_pos (by omega)]
        have t1 : decide (z < 1) = true := by simp; omega
        clear h1
        go_wp2
        go_ret
        exact ⟨ret_bool HV.out.symm, rfl⟩
      · have t1 : decide (z < 1) = false := by simp; omega
        by_cases h2 : (left : Int) < z
        · have HV : Hid (wideF zs 64 = false) := by show _ = _; rw [← hv.out, HD.out, wideF, if_pos (by omega)]
          have t2 : decide ((left : Int) < z) = true := by simp; omega
          clear h1 h2
          go_wp2
          go_ret
          exact ⟨ret_bool HV.out.symm, rfl⟩
        · have t2 : decide ((left : Int) < z) = false := by simp; omega
          obtain ⟨x, hx⟩ := Int.eq_ofNat_of_zero_le (show 0 ≤ (left : Int) - z by omega)
          have HV : Hid (wideF (zs.drop (k + 1)) x = wideF zs 64) := by show _ = _; rw [← hv.out, HD.out, wideF, if_neg (by omega), hx]
          go_wp2
          go_round
          case rel => exact ⟨x, k + 1, by omega, by omega, by first | rfl | rw [hx], by go_num, HV.out⟩
          case measure => simp [intOf]; omega
    · have HV : Hid (wideF zs 64 = true) := by show _ = _; rw [← hv.out, List.drop_of_length_le (by have := HL.out; omega)]; rfl
      go_wp2
      go_ret
      exact ⟨ret_bool HV.out.symm, rfl⟩
set_option maxRecDepth 100000 in
set_option maxHeartbeats 1000000 in
theorem ref_widths (A : Option Addr) (m c : Nat) (zs : List Int) (w : World) (hr : Rd w w.heap.size A m (zs.map (.int .i64))) (hm : m ≤ 100) :
    Calls Try.prog 91 #[.slice A m c] w fun e w' => e = .returned (.bool (wideF zs 64)) ∧ w = w' := by
  have HE : Hid (wideR zs 0 = wideF zs 64) := wideR_eq zs 0 (by decide) (by decide)
  have HR := Lib.hid hr
  have HL := Lib.hid hr.lenI
  clear hr
  go_enter Try.func91, Try.ntmps91
  go_wp2
  go_loop [3, 8] (fun x i => ∃ (all k : Nat), k ≤ m ∧ all ≤ 128 ∧ x = .int .i64 all ∧ i = .int .i64 k ∧ Hid (wideR (zs.drop k) all = wideF zs 64)) (fun _ i => m - (intOf i).toNat)
  case atStart => exact ⟨0, 0, Nat.zero_le _, by decide, rfl, rfl, HE.out⟩
  case round =>
    obtain ⟨all, k, hk, hall, rfl, rfl, hv⟩ := hrel
    by_cases hlt : k < m
    · obtain ⟨b, o, rfl, hb, hc⟩ := HR.out.atI hlt
      have HD := Lib.hid (drop_ig (l := zs) (k := k) (by rw [HL.out]; exact hlt))
      obtain ⟨z, hz⟩ : ∃ z, ig zs k = z := ⟨_, rfl⟩
      rw [hz] at hc HD
      clear hz
      by_cases h1 : z < 1 ∨ 64 < z ∨ 64 < (all : Int)
      · have HV : Hid (wideF zs 64 = false) := by show _ = _; rw [← hv.out, HD.out, wideR, if_pos h1]
        have T : Hid (decide (z < 1) = true ∨ (decide (z < 1) = false ∧ decide (64 < z) = true) ∨ (decide (z < 1) = false ∧ decide (64 < z) = false ∧ decide (64 < (all : Int)) = true)) := by
          show _ ∨ _
          simp; omega
        clear h1
        rcases T.out with t1 | ⟨t1, t2⟩ | ⟨t1, t2, t3⟩
        all_goals
          go_wp2
          go_ret
          exact ⟨ret_bool HV.out.symm, rfl⟩
      · have t1 : decide (z < 1) = false := by simp; omega
        have t2 : decide (64 < z) = false := by simp; omega
        have t3 : decide (64 < (all : Int)) = false := by simp; omega
        obtain ⟨x, hx⟩ := Int.eq_ofNat_of_zero_le (show 0 ≤ (all : Int) + z by omega)
        have HV : Hid (wideR (zs.drop (k + 1)) x = wideF zs 64) := by show _ = _; rw [← hv.out, HD.out, wideR, if_neg h1, hx]
        have hx128 : x ≤ 128 := by omega
        clear h1
        go_wp2
        go_round
        case rel => exact ⟨x, k + 1, by omega, hx128, by first | rfl | rw [hx], by go_num, HV.out⟩
        case measure => simp [intOf]; omega
    · have HV : Hid (wideF zs 64 = decide ((all : Int) ≤ 64)) := by show _ = _; rw [← hv.out, List.drop_of_length_le (by have := HL.out; omega)]; rfl
      go_wp2
      go_ret
      exact ⟨by rw [HV.out]; simp, rfl⟩
theorem part_val {v y s : Nat} (hv : v < 18446744073709551616) (hy : 2 * y + v / 2 ^ s % 2 < 18446744073709551616) :
    IntKind.u64.wrap (IntKind.u64.wrap (2 * (y : Int)) + bits .and .u64 ((v : Int) / 2 ^ s) 1) = ((2 * y + v / 2 ^ s % 2 : Nat) : Int) := by
  have e2 : (v : Int) / 2 ^ s = ((v / 2 ^ s : Nat) : Int) := by simp
  have hlt : v / 2 ^ s < 18446744073709551616 := Nat.lt_of_le_of_lt (Nat.div_le_self _ _) hv
  rw [e2, show (1 : Int) = ((1 : Nat) : Int) by rfl, u64_and_nat _ 1 hlt (by decide), nat_mask1, wrap_u64, wrap_u64]
  omega
set_option maxRecDepth 100000 in
set_option maxHeartbeats 1000000 in
theorem ref_part (v f n : Nat) (hv : v < 18446744073709551616) (h1 : f + n ≤ 64) (w : World) :
    Calls Try.prog 92 #[.int .u64 v, .int .i64 f, .int .i64 n] w fun e w' => e = .returned (.int .u64 ((v / 2 ^ f % 2 ^ n : Nat) : Int)) ∧ w = w' := by
  obtain ⟨p, hp⟩ : ∃ p, v / 2 ^ f % 2 ^ n = p := ⟨_, rfl⟩
  have hp64 : p < 18446744073709551616 := by rw [← hp]; exact Nat.lt_of_le_of_lt (Nat.le_trans (Nat.mod_le _ _) (Nat.div_le_self _ _)) hv
  have HP := Lib.hid hp
  rw [hp]
  clear hp
  go_enter Try.func92, Try.ntmps92
  go_wp2
  go_loop [7, 8] (fun x i => ∃ (k : Nat) (z : Int) (y : Nat), k ≤ n ∧ i = .int .i64 z ∧ Hid (z = (k : Int) - 1) ∧ x = .int .u64 y ∧ Hid (y = p / 2 ^ k)) (fun _ i => (intOf i + 1).toNat)
  case atStart => exact ⟨n, _, 0, Nat.le_refl _, rfl, rfl, rfl, (Nat.div_eq_of_lt (by rw [← HP.out]; exact Nat.mod_lt _ (Nat.two_pow_pos n))).symm⟩
  case round =>
    obtain ⟨k, z, y, hk, rfl, hz, rfl, hy⟩ := hrel
    cases k with
    | zero =>
      obtain rfl : z = -1 := by have := hz.out; omega
      have HY : Hid (y = p) := by show _ = _; rw [hy.out, Nat.pow_zero, Nat.div_one]
      go_wp2
      go_ret
      exact ⟨by rw [HY.out]; rfl, rfl⟩
    | succ j =>
      obtain rfl : z = (j : Int) := by have := hz.out; omega
      have hs : 2 * y + v / 2 ^ (f + j) % 2 = p / 2 ^ j := by
        have := part_step (v := v) (f := f) (show j < n by omega)
        rw [HP.out] at this
        rw [hy.out]; exact this
      have hlt : p / 2 ^ j < 18446744073709551616 := Nat.lt_of_le_of_lt (Nat.div_le_self _ _) hp64
      have hval := part_val (v := v) (y := y) (s := f + j) hv (by omega)
      obtain ⟨x, hx⟩ : ∃ x, 2 * y + v / 2 ^ (f + j) % 2 = x := ⟨_, rfl⟩
      rw [hx] at hval hs
      have HS := Lib.hid hs
      clear hx hs
      go_wp2
      go_round
      case rel => exact ⟨j, _, x, by omega, rfl, rfl, by first | rfl | rw [hval], HS.out⟩
      case measure => simp [intOf]
end Go.Proofs.Ytknnalaemndnaaa
