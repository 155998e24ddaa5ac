/- Walks of package pack and of its reference: names in words, zig and zag. -/
import Derived.Test.YtknnalaemndnaaaPackK
namespace Go.Proofs.Ytknnalaemndnaaa
open Go.RowKit
def putRefE (s g : Int) : Int × Int := if s < 0 ∨ 4096 < s ∨ g < 0 ∨ 1099511627776 ≤ g then (0, 6) else (s + g * 8192, 0)
def putRingE (n p : Int) : Int × Int := if n < -1 ∨ 4096 < n ∨ p < -1 ∨ 4096 < p then (0, 6) else (n + 1 + (p + 1) * 8192, 0)
def putEntE (n l : Int) : Int × Int := if n < 0 ∨ 4096 < n ∨ l < 0 ∨ 7 < l then (0, 6) else (n + l * 8192, 0)
def refE (v : Nat) : (Int × Int) × Int := if 4096 < v % 8192 ∨ 1099511627776 ≤ v / 8192 then ((0, 0), 6) else (((v % 8192 : Nat), (v / 8192 : Nat)), 0)
def ringE (v : Nat) : (Int × Int) × Int := if 4097 < v % 8192 ∨ 4097 < v / 8192 then ((0, 0), 6) else ((((v % 8192 : Nat) : Int) - 1, ((v / 8192 : Nat) : Int) - 1), 0)
def entE (v : Nat) : (Int × Int) × Int := if 4096 < v % 8192 ∨ 7 < v / 8192 then ((0, 0), 6) else (((v % 8192 : Nat), (v / 8192 : Nat)), 0)
theorem pack_zig (n : Int) (h0 : -9223372036854775808 ≤ n) (h1 : n ≤ 9223372036854775807) (w : World) :
    Calls Try.prog 46 #[.int .i64 n] w fun e w' => e = .returned (.int .u64 (zigF n)) ∧ w = w' := by
  have hz := zig_law n h0 h1
  go_enter Try.func46, Try.ntmps46
  go_wp2
  try rw [hz]
  go_ret
  exact ⟨rfl, rfl⟩
theorem pack_zag (n : Nat) (h : n < 18446744073709551616) (w : World) :
    Calls Try.prog 48 #[.int .u64 n] w fun e w' => e = .returned (.int .i64 (zagF n)) ∧ w = w' := by
  have hz := zag_law n h
  go_enter Try.func48, Try.ntmps48
  go_wp2
  try rw [hz]
  go_ret
  exact ⟨rfl, rfl⟩
theorem ref_zig (n : Int) (h0 : -9223372036854775808 ≤ n) (h1 : n ≤ 9223372036854775807) (w : World) :
    Calls Try.prog 47 #[.int .i64 n] w fun e w' => e = .returned (.int .u64 (zigF n)) ∧ w = w' := by
  by_cases h : 0 ≤ n
  · have hz : zigF n = 2 * n := by unfold zigF; rw [if_pos h]
    have t : decide (0 ≤ n) = true := by simp; omega
    have HZ := Lib.hid hz
    go_enter Try.func47, Try.ntmps47
    go_wp2
    go_ret
    exact ⟨by rw [HZ.out]; rfl, rfl⟩
  · have hz : zigF n = 2 * (-(n + 1)) + 1 := by unfold zigF; rw [if_neg h]
    have t : decide (0 ≤ n) = false := by simp; omega
    have HZ := Lib.hid hz
    go_enter Try.func47, Try.ntmps47
    go_wp2
    go_ret
    exact ⟨rfl, rfl⟩
theorem ref_zag (n : Nat) (h : n < 18446744073709551616) (w : World) :
    Calls Try.prog 49 #[.int .u64 n] w fun e w' => e = .returned (.int .i64 (zagF n)) ∧ w = w' := by
  by_cases h2 : n % 2 = 0
  · have t : ((n : Int) % 2 == 0) = true := by simp; omega
    have HZ : Hid (zagF n = ((n / 2 : Nat) : Int)) := by show _ = _; unfold zagF; rw [if_pos h2]
    clear h2
    go_enter Try.func49, Try.ntmps49
    go_wp2
    go_ret
    exact ⟨by rw [HZ.out]; rfl, rfl⟩
  · have t : ((n : Int) % 2 == 0) = false := by simp; omega
    have HZ : Hid (zagF n = -((n / 2 : Nat) : Int) - 1) := by show _ = _; unfold zagF; rw [if_neg h2]
    clear h2
    go_enter Try.func49, Try.ntmps49
    go_wp2
    go_ret
    exact ⟨by rw [HZ.out]; rfl, rfl⟩
theorem pack_slot (n l : Int) (w : World) :
    Calls Try.prog 93 #[.int .i64 n, .int .i64 l] w fun e w' => e = .returned (.bool (decide (l ≤ n ∧ n ≤ 4096))) ∧ w = w' := by
  by_cases h : l ≤ n
  · have t : decide (l ≤ n) = true := by simp; omega
    have HB : Hid (decide (l ≤ n ∧ n ≤ 4096) = decide (n ≤ 4096)) := by show _ = _; simp [h]
    clear h
    go_enter Try.func93, Try.ntmps93
    go_wp2
    go_ret
    exact ⟨by rw [HB.out]; rfl, rfl⟩
  · have t : decide (l ≤ n) = false := by simp; omega
    have HB : Hid (decide (l ≤ n ∧ n ≤ 4096) = false) := by show _ = _; simp [h]
    clear h
    go_enter Try.func93, Try.ntmps93
    go_wp2
    go_ret
    exact ⟨by rw [HB.out]; rfl, rfl⟩
theorem or13 {s g : Int} (h0 : 0 ≤ s) (h1 : s < 8192) (h2 : 0 ≤ g) (h3 : g < 1125899906842624) : bits .or .u64 (g * 8192) s = s + g * 8192 := by
  obtain ⟨a, rfl⟩ := Int.eq_ofNat_of_zero_le h0
  obtain ⟨b, rfl⟩ := Int.eq_ofNat_of_zero_le h2
  rw [show (b : Int) * 8192 = ((b * 8192 : Nat) : Int) by simp, u64_or_nat _ _ (by omega) (by omega), nat_join 13 _ _ (by show b * 8192 % 8192 = 0; omega) (by show a < 8192; omega)]
  omega
set_option maxRecDepth 100000 in
theorem pack_putref (s g : Int) (hs : -9223372036854775808 ≤ s ∧ s ≤ 9223372036854775807) (hg : -9223372036854775808 ≤ g ∧ g ≤ 9223372036854775807) (w : World) :
    Calls Try.prog 50 #[.agg #[.int .i64 s, .int .i64 g]] w fun e w' => e = .returned (.tuple #[.int .u64 (putRefE s g).1, .int .i64 (putRefE s g).2]) ∧ Below w.heap.size w w' := by
  have hsl := fun w => pack_slot s 0 w
  by_cases h : s < 0 ∨ 4096 < s ∨ g < 0 ∨ 1099511627776 ≤ g
  · have HE : Hid (putRefE s g = (0, 6)) := by show _ = _; unfold putRefE; rw [if_pos h]
    have T : Hid (decide (0 ≤ s ∧ s ≤ 4096) = false ∨ (decide (0 ≤ s ∧ s ≤ 4096) = true ∧ decide (g < 0) = true) ∨ (decide (0 ≤ s ∧ s ≤ 4096) = true ∧ decide (g < 0) = false ∧ (g / 1099511627776 != 0) = true)) := by
      show _ ∨ _
      simp; omega
    clear h
    rcases T.out with t | ⟨t, t2⟩ | ⟨t, t2, t3⟩
    all_goals
      rw [t] at hsl
      clear t
      go_enter Try.func50, Try.ntmps50
      go_wp2_with (go_at_call 93; refine (hsl _).mono ?_; rintro e w' ⟨rfl, rfl⟩)
      refine bodyPost_ret (v := .tuple #[.int .u64 0, .int .i64 6]) (by simp [results, Try.results50, go_sem]) rfl ⟨by rw [HE.out], (Below.refl _ _).alloc (Nat.le_refl _) _⟩
  · have HE : Hid (putRefE s g = (s + g * 8192, 0)) := by show _ = _; unfold putRefE; rw [if_neg h]
    have t : decide (0 ≤ s ∧ s ≤ 4096) = true := by simp; omega
    have t2 : decide (g < 0) = false := by simp; omega
    have t3 : (g / 1099511627776 != 0) = false := by simp; omega
    rw [t] at hsl
    clear t
    go_enter Try.func50, Try.ntmps50
    go_wp2_with (go_at_call 93; refine (hsl _).mono ?_; rintro e w' ⟨rfl, rfl⟩)
    rw [or13 (by omega) (by omega) (by omega) (by omega)]
    refine bodyPost_ret (v := .tuple #[.int .u64 (s + g * 8192), .int .i64 0]) (by simp [results, Try.results50, go_sem]) rfl ⟨by rw [HE.out], (Below.refl _ _).alloc (Nat.le_refl _) _⟩
set_option maxRecDepth 100000 in
theorem ref_putref (s g : Int) (w : World) :
    Calls Try.prog 51 #[.agg #[.int .i64 s, .int .i64 g]] w fun e w' => e = .returned (.tuple #[.int .u64 (putRefE s g).1, .int .i64 (putRefE s g).2]) ∧ Below w.heap.size w w' := by
  by_cases h : s < 0 ∨ 4096 < s ∨ g < 0 ∨ 1099511627776 ≤ g
  · have HE : Hid (putRefE s g = (0, 6)) := by show _ = _; unfold putRefE; rw [if_pos h]
    have T : Hid (decide (s < 0) = true ∨ (decide (s < 0) = false ∧ decide (4096 < s) = true) ∨ (decide (s < 0) = false ∧ decide (4096 < s) = false ∧ decide (g < 0) = true) ∨ (decide (s < 0) = false ∧ decide (4096 < s) = false ∧ decide (g < 0) = false ∧ decide (1099511627776 ≤ g) = true)) := by
      show _ ∨ _
      simp; omega
    clear h
    rcases T.out with t | ⟨t, t2⟩ | ⟨t, t2, t3⟩ | ⟨t, t2, t3, t4⟩
    all_goals
      go_enter Try.func51, Try.ntmps51
      go_wp2
      refine bodyPost_ret (v := .tuple #[.int .u64 0, .int .i64 6]) (by simp [results, Try.results51, go_sem]) rfl ⟨by rw [HE.out], (Below.refl _ _).alloc (Nat.le_refl _) _⟩
  · have HE : Hid (putRefE s g = (s + g * 8192, 0)) := by show _ = _; unfold putRefE; rw [if_neg h]
    have t : decide (s < 0) = false := by simp; omega
    have t2 : decide (4096 < s) = false := by simp; omega
    have t3 : decide (g < 0) = false := by simp; omega
    have t4 : decide (1099511627776 ≤ g) = false := by simp; omega
    go_enter Try.func51, Try.ntmps51
    go_wp2
    refine bodyPost_ret (v := .tuple #[.int .u64 (s + g * 8192), .int .i64 0]) (by simp [results, Try.results51, go_sem]) rfl ⟨by rw [HE.out], (Below.refl _ _).alloc (Nat.le_refl _) _⟩
set_option maxRecDepth 100000 in
theorem pack_putring (s g : Int) (hs : -9223372036854775808 ≤ s ∧ s ≤ 9223372036854775807) (hg : -9223372036854775808 ≤ g ∧ g ≤ 9223372036854775807) (w : World) :
    Calls Try.prog 52 #[.int .i64 s, .int .i64 g] w fun e w' => e = .returned (.tuple #[.int .u64 (putRingE s g).1, .int .i64 (putRingE s g).2]) ∧ w = w' := by
  have hsl := fun w => pack_slot s (-1) w
  have hsl2 := fun w => pack_slot g (-1) w
  by_cases h : s < -1 ∨ 4096 < s ∨ g < -1 ∨ 4096 < g
  · have HE : Hid (putRingE s g = (0, 6)) := by show _ = _; unfold putRingE; rw [if_pos h]
    have T : Hid (decide (-1 ≤ s ∧ s ≤ 4096) = false ∨ (decide (-1 ≤ s ∧ s ≤ 4096) = true ∧ decide (-1 ≤ g ∧ g ≤ 4096) = false)) := by
      show _ ∨ _
      simp; omega
    clear h
    rcases T.out with t | ⟨t, t2⟩
    · rw [t] at hsl
      clear t hsl2
      go_enter Try.func52, Try.ntmps52
      go_wp2_with (go_at_call 93; refine (hsl _).mono ?_; rintro e w' ⟨rfl, rfl⟩)
      refine bodyPost_ret (v := .tuple #[.int .u64 0, .int .i64 6]) (by simp [results, Try.results52, go_sem]) rfl ⟨by rw [HE.out], rfl⟩
    · rw [t] at hsl
      rw [t2] at hsl2
      clear t t2
      go_enter Try.func52, Try.ntmps52
      go_wp2_with (go_at_call 93; first | ((with_reducible refine (hsl _).mono ?_); rintro e w' ⟨rfl, rfl⟩) | ((with_reducible refine (hsl2 _).mono ?_); rintro e w' ⟨rfl, rfl⟩))
      refine bodyPost_ret (v := .tuple #[.int .u64 0, .int .i64 6]) (by simp [results, Try.results52, go_sem]) rfl ⟨by rw [HE.out], rfl⟩
  · have HE : Hid (putRingE s g = (s + 1 + (g + 1) * 8192, 0)) := by show _ = _; unfold putRingE; rw [if_neg h]
    have t : decide (-1 ≤ s ∧ s ≤ 4096) = true := by simp; omega
    have t2 : decide (-1 ≤ g ∧ g ≤ 4096) = true := by simp; omega
    rw [t] at hsl
    rw [t2] at hsl2
    clear t t2
    go_enter Try.func52, Try.ntmps52
    go_wp2_with (go_at_call 93; first | ((with_reducible refine (hsl _).mono ?_); rintro e w' ⟨rfl, rfl⟩) | ((with_reducible refine (hsl2 _).mono ?_); rintro e w' ⟨rfl, rfl⟩))
    rw [or13 (by omega) (by omega) (by omega) (by omega)]
    refine bodyPost_ret (v := .tuple #[.int .u64 (s + 1 + (g + 1) * 8192), .int .i64 0]) (by simp [results, Try.results52, go_sem]) rfl ⟨by rw [HE.out], rfl⟩
set_option maxRecDepth 100000 in
theorem ref_putring (s g : Int) (w : World) :
    Calls Try.prog 53 #[.int .i64 s, .int .i64 g] w fun e w' => e = .returned (.tuple #[.int .u64 (putRingE s g).1, .int .i64 (putRingE s g).2]) ∧ w = w' := by
  by_cases h : s < -1 ∨ 4096 < s ∨ g < -1 ∨ 4096 < g
  · have HE : Hid (putRingE s g = (0, 6)) := by show _ = _; unfold putRingE; rw [if_pos h]
    have T : Hid (decide (s < -1) = true ∨ (decide (s < -1) = false ∧ decide (4096 < s) = true) ∨ (decide (s < -1) = false ∧ decide (4096 < s) = false ∧ decide (g < -1) = true) ∨ (decide (s < -1) = false ∧ decide (4096 < s) = false ∧ decide (g < -1) = false ∧ decide (4096 < g) = true)) := by
      show _ ∨ _
      simp; omega
    clear h
    rcases T.out with t | ⟨t, t2⟩ | ⟨t, t2, t3⟩ | ⟨t, t2, t3, t4⟩
    all_goals
      go_enter Try.func53, Try.ntmps53
      go_wp2
      refine bodyPost_ret (v := .tuple #[.int .u64 0, .int .i64 6]) (by simp [results, Try.results53, go_sem]) rfl ⟨by rw [HE.out], rfl⟩
  · have HE : Hid (putRingE s g = (s + 1 + (g + 1) * 8192, 0)) := by show _ = _; unfold putRingE; rw [if_neg h]
    have t : decide (s < -1) = false := by simp; omega
    have t2 : decide (4096 < s) = false := by simp; omega
    have t3 : decide (g < -1) = false := by simp; omega
    have t4 : decide (4096 < g) = false := by simp; omega
    go_enter Try.func53, Try.ntmps53
    go_wp2
    refine bodyPost_ret (v := .tuple #[.int .u64 (s + 1 + (g + 1) * 8192), .int .i64 0]) (by simp [results, Try.results53, go_sem]) rfl ⟨by rw [HE.out], rfl⟩
set_option maxRecDepth 100000 in
theorem pack_putent (s g : Int) (w : World) :
    Calls Try.prog 54 #[.int .i64 s, .int .i64 g] w fun e w' => e = .returned (.tuple #[.int .u64 (putEntE s g).1, .int .i64 (putEntE s g).2]) ∧ w = w' := by
  have hsl := fun w => pack_slot s 0 w
  by_cases h : s < 0 ∨ 4096 < s ∨ g < 0 ∨ 7 < g
  · have HE : Hid (putEntE s g = (0, 6)) := by show _ = _; unfold putEntE; rw [if_pos h]
    have T : Hid (decide (0 ≤ s ∧ s ≤ 4096) = false ∨ (decide (0 ≤ s ∧ s ≤ 4096) = true ∧ decide (g < 0) = true) ∨ (decide (0 ≤ s ∧ s ≤ 4096) = true ∧ decide (g < 0) = false ∧ decide (7 < g) = true)) := by
      show _ ∨ _
      simp; omega
    clear h
    rcases T.out with t | ⟨t, t2⟩ | ⟨t, t2, t3⟩
    all_goals
      rw [t] at hsl
      clear t
      go_enter Try.func54, Try.ntmps54
      go_wp2_with (go_at_call 93; refine (hsl _).mono ?_; rintro e w' ⟨rfl, rfl⟩)
      refine bodyPost_ret (v := .tuple #[.int .u64 0, .int .i64 6]) (by simp [results, Try.results54, go_sem]) rfl ⟨by rw [HE.out], rfl⟩
  · have HE : Hid (putEntE s g = (s + g * 8192, 0)) := by show _ = _; unfold putEntE; rw [if_neg h]
    have t : decide (0 ≤ s ∧ s ≤ 4096) = true := by simp; omega
    have t2 : decide (g < 0) = false := by simp; omega
    have t3 : decide (7 < g) = false := by simp; omega
    rw [t] at hsl
    clear t
    go_enter Try.func54, Try.ntmps54
    go_wp2_with (go_at_call 93; refine (hsl _).mono ?_; rintro e w' ⟨rfl, rfl⟩)
    rw [or13 (by omega) (by omega) (by omega) (by omega)]
    refine bodyPost_ret (v := .tuple #[.int .u64 (s + g * 8192), .int .i64 0]) (by simp [results, Try.results54, go_sem]) rfl ⟨by rw [HE.out], rfl⟩
set_option maxRecDepth 100000 in
theorem ref_putent (s g : Int) (w : World) :
    Calls Try.prog 55 #[.int .i64 s, .int .i64 g] w fun e w' => e = .returned (.tuple #[.int .u64 (putEntE s g).1, .int .i64 (putEntE s g).2]) ∧ w = w' := by
  by_cases h : s < 0 ∨ 4096 < s ∨ g < 0 ∨ 7 < g
  · have HE : Hid (putEntE s g = (0, 6)) := by show _ = _; unfold putEntE; rw [if_pos h]
    have T : Hid (decide (s < 0) = true ∨ (decide (s < 0) = false ∧ decide (4096 < s) = true) ∨ (decide (s < 0) = false ∧ decide (4096 < s) = false ∧ decide (g < 0) = true) ∨ (decide (s < 0) = false ∧ decide (4096 < s) = false ∧ decide (g < 0) = false ∧ decide (7 < g) = true)) := by
      show _ ∨ _
      simp; omega
    clear h
    rcases T.out with t | ⟨t, t2⟩ | ⟨t, t2, t3⟩ | ⟨t, t2, t3, t4⟩
    all_goals
      go_enter Try.func55, Try.ntmps55
      go_wp2
      refine bodyPost_ret (v := .tuple #[.int .u64 0, .int .i64 6]) (by simp [results, Try.results55, go_sem]) rfl ⟨by rw [HE.out], rfl⟩
  · have HE : Hid (putEntE s g = (s + g * 8192, 0)) := by show _ = _; unfold putEntE; rw [if_neg h]
    have t : decide (s < 0) = false := by simp; omega
    have t2 : decide (4096 < s) = false := by simp; omega
    have t3 : decide (g < 0) = false := by simp; omega
    have t4 : decide (7 < g) = false := by simp; omega
    go_enter Try.func55, Try.ntmps55
    go_wp2
    refine bodyPost_ret (v := .tuple #[.int .u64 (s + g * 8192), .int .i64 0]) (by simp [results, Try.results55, go_sem]) rfl ⟨by rw [HE.out], rfl⟩
end Go.Proofs.Ytknnalaemndnaaa
