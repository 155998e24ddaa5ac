/- Walks of package vec: what is right, distances, products. -/
import Derived.Test.YtpcbfoddlpgdjaaVecP
import Derived.Lib.MinMax
import Derived.Laws.Externs
import Derived.Deep.DeepCutAuto
namespace Go.Proofs.Ytpcbfoddlpgdjaa
open Go.RowKit
theorem add64_run (x y : Nat) (w : World) : (callFunc 43 #[.int .u64 x, .int .u64 y, .int .u64 0]).run Try.prog w =
    .ok (.value (.tuple #[.int .u64 (((x + y) % 18446744073709551616 : Nat) : Int), .int .u64 (((x + y) / 18446744073709551616 : Nat) : Int)])) w := by
  rw [run_callFunc_extern Try.func43 (by kernel_rfl) (by kernel_rfl) (by kernel_rfl) (e := add64Entry) (by kernel_rfl), run_add64 x y 0 (by omega) (by omega) (by omega) (by omega)]
  simp only [Result.andThen]
  congr 5 <;> omega
set_option maxRecDepth 100000 in
theorem vec_square (x y : Int) (hx : -2147483648 ≤ x ∧ x ≤ 2147483647) (hy : -2147483648 ≤ y ∧ y ≤ 2147483647) (w : World) :
    Calls Try.prog 44 #[.int .i32 x, .int .i32 y] w fun e w' => e = .returned (.int .u64 (sqN x y : Nat)) ∧ w = w' := by
  have h := Lib.hid (wrap_sq x y hx hy)
  obtain ⟨x1, x2⟩ := hx
  obtain ⟨y1, y2⟩ := hy
  go_enter Try.func44, Try.ntmps44
  go_wp2
  go_ret
  exact ⟨ret_int h.out, rfl⟩
/-- Why a vector is not right; 0: it is. -/
def vchkE (xs : List Int) (dim : Int) : Int := if chkV xs dim then 0 else 1
/-- What Dist goes through: the longer one first. -/
def DistIn (w : World) (L : Nat) (D : Nat) (a b : Value) : Prop := ∃ (A : Option Addr) (m c : Nat) (xs : List Int) (B : Option Addr) (m' c' : Nat) (ys : List Int), a = .slice A m c ∧ b = .slice B m' c' ∧ m' ≤ m ∧ m ≤ 9223372036854775807 ∧
  Rd w L A m (xs.map (.int .i32)) ∧ Rd w L B m' (ys.map (.int .i32)) ∧ (∀ z ∈ xs, -2147483648 ≤ z ∧ z ≤ 2147483647) ∧ (∀ z ∈ ys, -2147483648 ≤ z ∧ z ≤ 2147483647) ∧ distE xs ys = D
theorem bd_ig {zs : List Int} (h : ∀ z ∈ zs, -2147483648 ≤ z ∧ z ≤ 2147483647) (k : Nat) : -2147483648 ≤ ig zs k ∧ ig zs k ≤ 2147483647 := by
  rcases Nat.lt_or_ge k zs.length with q | q
  · refine h _ ?_; rw [ig, List.getD_eq_getElem?_getD, List.getElem?_eq_getElem q]; simp
  · rw [ig, List.getD_eq_getElem?_getD, List.getElem?_eq_none q]; exact ⟨by decide, by decide⟩
set_option maxRecDepth 100000 in
set_option maxHeartbeats 2000000 in
theorem vec_dist (A : Option Addr) (m c : Nat) (xs : List Int) (B : Option Addr) (m' c' : Nat) (ys : List Int) (L : Nat) (w : World) (hr : Rd w L A m (xs.map (.int .i32))) (hr' : Rd w L B m' (ys.map (.int .i32)))
    (hx : ∀ z ∈ xs, -2147483648 ≤ z ∧ z ≤ 2147483647) (hy : ∀ z ∈ ys, -2147483648 ≤ z ∧ z ≤ 2147483647) (hm : m ≤ 9223372036854775807) (hm' : m' ≤ 9223372036854775807) :
    Calls Try.prog 25 #[.slice A m c, .slice B m' c'] w fun e w' => e = .returned (.int .u64 (distE xs ys : Nat)) ∧ w = w' := by
  obtain ⟨D, hD⟩ : ∃ D, distE xs ys = D := ⟨_, rfl⟩
  rw [hD]
  have I1 : Hid (m' ≤ m → DistIn w L D (.slice A m c) (.slice B m' c')) := fun h => ⟨A, m, c, xs, B, m', c', ys, rfl, rfl, h, hm, hr, hr', hx, hy, hD⟩
  have I2 : Hid (m < m' → DistIn w L D (.slice B m' c') (.slice A m c)) := fun h => ⟨B, m', c', ys, A, m, c, xs, rfl, rfl, by omega, hm', hr', hr, hy, hx, by rw [distE_comm]; exact hD⟩
  have ha := add64_run
  have HA := Lib.hid ha
  clear hr hr' hx hy hD ha
  go_enter Try.func25, Try.ntmps25
  go_upto_if 14 with fail
  go_cut [0, 1] (fun a b wx => DistIn w L D a b ∧ w = wx)
  case first =>
    go_wp2_with fail
    all_goals
      go_meet
      case rel => first | (refine ⟨I2.out ?_, rfl⟩; omega) | (refine ⟨I1.out ?_, rfl⟩; omega)
  case rest =>
    obtain ⟨hdi, rfl⟩ := hcut
    obtain ⟨A, m, c, xs, B, m', c', ys, rfl, rfl, hmm, hmx, hrx, hry, hx, hy, hD⟩ := hdi
    have RX := Lib.hid hrx
    have RY := Lib.hid hry
    have BX : Hid (∀ k, -2147483648 ≤ ig xs k ∧ ig xs k ≤ 2147483647) := bd_ig hx
    have BY : Hid (∀ k, -2147483648 ≤ ig ys k ∧ ig ys k ≤ 2147483647) := bd_ig hy
    have hlx : xs.length = m := hrx.lenI
    have hly : ys.length = m' := hry.lenI
    have HD : Hid (min (dsq xs ys m) 18446744073709551615 = D) := by show _ = _; rw [← hD, distE, hlx, hly, Nat.max_eq_left hmm]
    have HY0 : Hid (∀ k, m' ≤ k → ig ys k = 0) := fun k hk => by rw [ig, List.getD_eq_getElem?_getD, List.getElem?_eq_none (by omega)]; rfl
    have HMO : Hid (∀ k, k ≤ m → dsq xs ys k ≤ dsq xs ys m) := fun k hk => dsq_mono xs ys hk
    clear hrx hry hx hy hD hlx hly I1 I2
    go_wp2_with fail
    go_loop [5, 19] (fun x i => ∃ (k u : Nat), k ≤ m ∧ u < 18446744073709551616 ∧ i = .int .i64 k ∧ x = .int .u64 u ∧ Hid (dsq xs ys k = u)) (fun _ i => m - (intOf i).toNat)
    case atStart => exact ⟨0, 0, Nat.zero_le _, by decide, rfl, rfl, rfl⟩
    case round =>
      obtain ⟨k, u, hk, hu, rfl, rfl, hv⟩ := hrel
      by_cases hlt : k < m
      · obtain ⟨b, o, rfl, _, hc⟩ := RX.out.atI hlt
        have hbx := BX.out k
        have hby := BY.out k
        have hsq : dsq xs ys (k + 1) = u + sqN (ig xs k) (ig ys k) := by rw [dsq, hv.out]
        have hmo := HMO.out (k + 1) hlt
        have hs2 : sqN (ig xs k) (ig ys k) ≤ 4294967295 * 4294967295 := sqN_le (by omega)
        obtain ⟨z, hz⟩ : ∃ z, ig xs k = z := ⟨_, rfl⟩
        rw [hz] at hc hsq hbx hs2
        have hca := vec_square z (ig ys k) hbx hby w
        by_cases h2 : k < m'
        · obtain ⟨b2, o2, rfl, _, hc2⟩ := RY.out.atI h2
          obtain ⟨y, hy⟩ : ∃ y, ig ys k = y := ⟨_, rfl⟩
          rw [hy] at hc2 hsq hca hs2
          obtain ⟨q, hq⟩ : ∃ q, sqN z y = q := ⟨_, rfl⟩
          rw [hq] at hsq hca hs2
          have HC := Lib.hid hca
          have ha := HA.out u q w
          by_cases h3 : 18446744073709551616 ≤ u + q
          · have HR : Hid (D = 18446744073709551615) := by show _ = _; rw [← HD.out]; omega
            rw [show (u + q) / 18446744073709551616 = 1 by omega] at ha
            have HAA := Lib.hid ha
            clear hz hy hq hsq hmo hca h3 ha hbx hby hs2
            go_wp2_with fail
            refine HC.out.mono ?_
            rintro e w' ⟨rfl, rfl⟩
            have ha := HAA.out
            go_wp2_with fail
            go_ret
            exact ⟨by rw [HR.out]; rfl, rfl⟩
          · have HV := Lib.hid hsq
            rw [show (u + q) / 18446744073709551616 = 0 by omega, show (u + q) % 18446744073709551616 = u + q by omega] at ha
            have HAA := Lib.hid ha
            have hu2 : u + q < 18446744073709551616 := by omega
            clear hz hy hq hsq hmo hca h3 ha hbx hby hs2
            go_wp2_with fail
            refine HC.out.mono ?_
            rintro e w' ⟨rfl, rfl⟩
            have ha := HAA.out
            go_wp2_with fail
            clear ha
            go_round
            case rel => exact ⟨k + 1, u + q, by omega, hu2, by go_num, by first | rfl | go_num, HV⟩
            case measure => simp [intOf]; omega
        · have hy := HY0.out k (by omega)
          rw [hy] at hsq hca hs2
          have t : decide (k < m') = false := by simp; omega
          obtain ⟨q, hq⟩ : ∃ q, sqN z 0 = q := ⟨_, rfl⟩
          rw [hq] at hsq hca hs2
          have HC := Lib.hid hca
          have ha := HA.out u q w
          by_cases h3 : 18446744073709551616 ≤ u + q
          · have HR : Hid (D = 18446744073709551615) := by show _ = _; rw [← HD.out]; omega
            rw [show (u + q) / 18446744073709551616 = 1 by omega] at ha
            have HAA := Lib.hid ha
            clear hz hy hq hsq hmo hca h3 ha hbx hby hs2 h2
            go_wp2_with fail
            refine HC.out.mono ?_
            rintro e w' ⟨rfl, rfl⟩
            have ha := HAA.out
            go_wp2_with fail
            go_ret
            exact ⟨by rw [HR.out]; rfl, rfl⟩
          · have HV := Lib.hid hsq
            rw [show (u + q) / 18446744073709551616 = 0 by omega, show (u + q) % 18446744073709551616 = u + q by omega] at ha
            have HAA := Lib.hid ha
            have hu2 : u + q < 18446744073709551616 := by omega
            clear hz hy hq hsq hmo hca h3 ha hbx hby hs2 h2
            go_wp2_with fail
            refine HC.out.mono ?_
            rintro e w' ⟨rfl, rfl⟩
            have ha := HAA.out
            go_wp2_with fail
            clear ha
            go_round
            case rel => exact ⟨k + 1, u + q, by omega, hu2, by go_num, by first | rfl | go_num, HV⟩
            case measure => simp [intOf]; omega
      · obtain rfl : k = m := by omega
        have HR : Hid (D = u) := by show _ = _; rw [← HD.out, hv.out]; omega
        go_wp2_with fail
        go_ret
        exact ⟨ret_int (by rw [HR.out]), rfl⟩
theorem dot_wrap (a b : Int) : IntKind.i64.wrap (IntKind.i64.wrap a + b) = IntKind.i64.wrap (a + b) := by
  rw [IntKind.wrap_i64, IntKind.wrap_i64, IntKind.wrap_i64]; omega
theorem prod_bd {x y : Int} (hx : -2147483648 ≤ x ∧ x ≤ 2147483647) (hy : -2147483648 ≤ y ∧ y ≤ 2147483647) : -4611686018427387904 ≤ x * y ∧ x * y ≤ 4611686018427387904 := by
  have h : (x * y).natAbs ≤ 2147483648 * 2147483648 := by rw [Int.natAbs_mul]; exact Nat.mul_le_mul (by omega) (by omega)
  omega
end Go.Proofs.Ytpcbfoddlpgdjaa
