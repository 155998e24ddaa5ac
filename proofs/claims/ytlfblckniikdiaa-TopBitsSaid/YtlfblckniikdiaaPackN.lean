/- Walks of package pack and of its reference: names in words, zig and zag. -/
import Derived.Test.YtlfblckniikdiaaPackK
namespace Go.Proofs.Ytlfblckniikdiaa
open Go.RowKit
def putRefE (s g : Int) : Int × Int := if s < 0 ∨ 4096 < s ∨ g < 0 ∨ 1099511627776 ≤ g then (0, 6) else (s + g * 8192, 0)
def putRingE (n p : Int) : Int × Int := if n < -1 ∨ 4096 < n ∨ p < -1 ∨ 4096 < p then (0, 6) else (n + 1 + (p + 1) * 8192, 0)
def putEntE (n l : Int) : Int × Int := if n < 0 ∨ 4096 < n ∨ l < 0 ∨ 7 < l then (0, 6) else (n + l * 8192, 0)
def refE (v : Nat) : (Int × Int) × Int := if 4096 < v % 8192 ∨ 1099511627776 ≤ v / 8192 then ((0, 0), 6) else (((v % 8192 : Nat), (v / 8192 : Nat)), 0)
def ringE (v : Nat) : (Int × Int) × Int := if 4097 < v % 8192 ∨ 4097 < v / 8192 then ((0, 0), 6) else ((((v % 8192 : Nat) : Int) - 1, ((v / 8192 : Nat) : Int) - 1), 0)
def entE (v : Nat) : (Int × Int) × Int := if 4096 < v % 8192 ∨ 7 < v / 8192 then ((0, 0), 6) else (((v % 8192 : Nat), (v / 8192 : Nat)), 0)
theorem pack_slot (n l : Int) (w : World) :
    Calls Try.prog 32 #[.int .i64 n, .int .i64 l] w fun e w' => e = .returned (.bool (decide (l ≤ n ∧ n ≤ 4096))) ∧ w = w' := by
  by_cases h : l ≤ n
  · have t : decide (l ≤ n) = true := by simp; omega
    have HB : Hid (decide (l ≤ n ∧ n ≤ 4096) = decide (n ≤ 4096)) := by show _ = _; simp [h]
    clear h
    go_enter Try.func32, Try.ntmps32
    go_wp2
    go_ret
    exact ⟨by rw [HB.out]; rfl, rfl⟩
  · have t : decide (l ≤ n) = false := by simp; omega
    have HB : Hid (decide (l ≤ n ∧ n ≤ 4096) = false) := by show _ = _; simp [h]
    clear h
    go_enter Try.func32, Try.ntmps32
    go_wp2
    go_ret
    exact ⟨by rw [HB.out]; rfl, rfl⟩
theorem or13 {s g : Int} (h0 : 0 ≤ s) (h1 : s < 8192) (h2 : 0 ≤ g) (h3 : g < 1125899906842624) : bits .or .u64 (g * 8192) s = s + g * 8192 := by
  obtain ⟨a, rfl⟩ := Int.eq_ofNat_of_zero_le h0
  obtain ⟨b, rfl⟩ := Int.eq_ofNat_of_zero_le h2
  rw [show (b : Int) * 8192 = ((b * 8192 : Nat) : Int) by simp, u64_or_nat _ _ (by omega) (by omega), nat_join 13 _ _ (by show b * 8192 % 8192 = 0; omega) (by show a < 8192; omega)]
  omega
set_option maxRecDepth 100000 in
theorem pack_putref (s g : Int) (hs : -9223372036854775808 ≤ s ∧ s ≤ 9223372036854775807) (hg : -9223372036854775808 ≤ g ∧ g ≤ 9223372036854775807) (w : World) :
    Calls Try.prog 15 #[.agg #[.int .i64 s, .int .i64 g]] w fun e w' => e = .returned (.tuple #[.int .u64 (putRefE s g).1, .int .i64 (putRefE s g).2]) ∧ Below w.heap.size w w' := by
  have hsl := fun w => pack_slot s 0 w
  by_cases h : s < 0 ∨ 4096 < s ∨ g < 0 ∨ 1099511627776 ≤ g
  · have HE : Hid (putRefE s g = (0, 6)) := by show _ = _; unfold putRefE; rw [if_pos h]
    have T : Hid (decide (0 ≤ s ∧ s ≤ 4096) = false ∨ (decide (0 ≤ s ∧ s ≤ 4096) = true ∧ decide (g < 0) = true) ∨ (decide (0 ≤ s ∧ s ≤ 4096) = true ∧ decide (g < 0) = false ∧ (g / 1099511627776 != 0) = true)) := by
      show _ ∨ _
      simp; omega
    clear h
    rcases T.out with t | ⟨t, t2⟩ | ⟨t, t2, t3⟩
    all_goals
      rw [t] at hsl
      clear t
      go_enter Try.func15, Try.ntmps15
      go_wp2_with (go_at_call 32; refine (hsl _).mono ?_; rintro e w' ⟨rfl, rfl⟩)
      refine bodyPost_ret (v := .tuple #[.int .u64 0, .int .i64 6]) (by simp [results, Try.results15, go_sem]) rfl ⟨by rw [HE.out], (Below.refl _ _).alloc (Nat.le_refl _) _⟩
  · have HE : Hid (putRefE s g = (s + g * 8192, 0)) := by show _ = _; unfold putRefE; rw [if_neg h]
    have t : decide (0 ≤ s ∧ s ≤ 4096) = true := by simp; omega
    have t2 : decide (g < 0) = false := by simp; omega
    have t3 : (g / 1099511627776 != 0) = false := by simp; omega
    rw [t] at hsl
    clear t
    go_enter Try.func15, Try.ntmps15
    go_wp2_with (go_at_call 32; refine (hsl _).mono ?_; rintro e w' ⟨rfl, rfl⟩)
    rw [or13 (by omega) (by omega) (by omega) (by omega)]
    refine bodyPost_ret (v := .tuple #[.int .u64 (s + g * 8192), .int .i64 0]) (by simp [results, Try.results15, go_sem]) rfl ⟨by rw [HE.out], (Below.refl _ _).alloc (Nat.le_refl _) _⟩
set_option maxRecDepth 100000 in
theorem pack_putring (s g : Int) (hs : -9223372036854775808 ≤ s ∧ s ≤ 9223372036854775807) (hg : -9223372036854775808 ≤ g ∧ g ≤ 9223372036854775807) (w : World) :
    Calls Try.prog 17 #[.int .i64 s, .int .i64 g] w fun e w' => e = .returned (.tuple #[.int .u64 (putRingE s g).1, .int .i64 (putRingE s g).2]) ∧ w = w' := by
  have hsl := fun w => pack_slot s (-1) w
  have hsl2 := fun w => pack_slot g (-1) w
  by_cases h : s < -1 ∨ 4096 < s ∨ g < -1 ∨ 4096 < g
  · have HE : Hid (putRingE s g = (0, 6)) := by show _ = _; unfold putRingE; rw [if_pos h]
    have T : Hid (decide (-1 ≤ s ∧ s ≤ 4096) = false ∨ (decide (-1 ≤ s ∧ s ≤ 4096) = true ∧ decide (-1 ≤ g ∧ g ≤ 4096) = false)) := by
      show _ ∨ _
      simp; omega
    clear h
    rcases T.out with t | ⟨t, t2⟩
    · rw [t] at hsl
      clear t hsl2
      go_enter Try.func17, Try.ntmps17
      go_wp2_with (go_at_call 32; refine (hsl _).mono ?_; rintro e w' ⟨rfl, rfl⟩)
      refine bodyPost_ret (v := .tuple #[.int .u64 0, .int .i64 6]) (by simp [results, Try.results17, go_sem]) rfl ⟨by rw [HE.out], rfl⟩
    · rw [t] at hsl
      rw [t2] at hsl2
      clear t t2
      go_enter Try.func17, Try.ntmps17
      go_wp2_with (go_at_call 32; first | ((with_reducible refine (hsl _).mono ?_); rintro e w' ⟨rfl, rfl⟩) | ((with_reducible refine (hsl2 _).mono ?_); rintro e w' ⟨rfl, rfl⟩))
      refine bodyPost_ret (v := .tuple #[.int .u64 0, .int .i64 6]) (by simp [results, Try.results17, go_sem]) rfl ⟨by rw [HE.out], rfl⟩
  · have HE : Hid (putRingE s g = (s + 1 + (g + 1) * 8192, 0)) := by show _ = _; unfold putRingE; rw [if_neg h]
    have t : decide (-1 ≤ s ∧ s ≤ 4096) = true := by simp; omega
    have t2 : decide (-1 ≤ g ∧ g ≤ 4096) = true := by simp; omega
    rw [t] at hsl
    rw [t2] at hsl2
    clear t t2
    go_enter Try.func17, Try.ntmps17
    go_wp2_with (go_at_call 32; first | ((with_reducible refine (hsl _).mono ?_); rintro e w' ⟨rfl, rfl⟩) | ((with_reducible refine (hsl2 _).mono ?_); rintro e w' ⟨rfl, rfl⟩))
    rw [or13 (by omega) (by omega) (by omega) (by omega)]
    refine bodyPost_ret (v := .tuple #[.int .u64 (s + 1 + (g + 1) * 8192), .int .i64 0]) (by simp [results, Try.results17, go_sem]) rfl ⟨by rw [HE.out], rfl⟩
set_option maxRecDepth 100000 in
theorem pack_putent (s g : Int) (w : World) :
    Calls Try.prog 19 #[.int .i64 s, .int .i64 g] w fun e w' => e = .returned (.tuple #[.int .u64 (putEntE s g).1, .int .i64 (putEntE s g).2]) ∧ w = w' := by
  have hsl := fun w => pack_slot s 0 w
  by_cases h : s < 0 ∨ 4096 < s ∨ g < 0 ∨ 7 < g
  · have HE : Hid (putEntE s g = (0, 6)) := by show _ = _; unfold putEntE; rw [if_pos h]
    have T : Hid (decide (0 ≤ s ∧ s ≤ 4096) = false ∨ (decide (0 ≤ s ∧ s ≤ 4096) = true ∧ decide (g < 0) = true) ∨ (decide (0 ≤ s ∧ s ≤ 4096) = true ∧ decide (g < 0) = false ∧ decide (7 < g) = true)) := by
      show _ ∨ _
      simp; omega
    clear h
    rcases T.out with t | ⟨t, t2⟩ | ⟨t, t2, t3⟩
    all_goals
      rw [t] at hsl
      clear t
      go_enter Try.func19, Try.ntmps19
      go_wp2_with (go_at_call 32; refine (hsl _).mono ?_; rintro e w' ⟨rfl, rfl⟩)
      refine bodyPost_ret (v := .tuple #[.int .u64 0, .int .i64 6]) (by simp [results, Try.results19, go_sem]) rfl ⟨by rw [HE.out], rfl⟩
  · have HE : Hid (putEntE s g = (s + g * 8192, 0)) := by show _ = _; unfold putEntE; rw [if_neg h]
    have t : decide (0 ≤ s ∧ s ≤ 4096) = true := by simp; omega
    have t2 : decide (g < 0) = false := by simp; omega
    have t3 : decide (7 < g) = false := by simp; omega
    rw [t] at hsl
    clear t
    go_enter Try.func19, Try.ntmps19
    go_wp2_with (go_at_call 32; refine (hsl _).mono ?_; rintro e w' ⟨rfl, rfl⟩)
    rw [or13 (by omega) (by omega) (by omega) (by omega)]
    refine bodyPost_ret (v := .tuple #[.int .u64 (s + g * 8192), .int .i64 0]) (by simp [results, Try.results19, go_sem]) rfl ⟨by rw [HE.out], rfl⟩
end Go.Proofs.Ytlfblckniikdiaa
