/- Walks of package pack and of its reference: what words are of. -/
import Derived.Test.YtlfblckniikdiaaPackN
namespace Go.Proofs.Ytlfblckniikdiaa
open Go.RowKit
set_option maxRecDepth 100000 in
theorem pack_cut (v n mo : Nat) (hv : v < 18446744073709551616) (hn : n ≤ 51) (hmo : mo ≤ 1) (w : World) :
    Calls Try.prog 35 #[.int .u64 v, .int .i64 n, .int .i64 mo] w fun e w' => e = .returned (.tuple #[.int .i64 (((v % 8192 : Nat) : Int) - mo), .int .i64 (((v / 8192 % 2 ^ n : Nat) : Int) - mo), .bool (decide (v / 8192 / 2 ^ n = 0 ∧ v % 8192 ≤ 4096 + mo))]) ∧ w = w' := by
  obtain ⟨y, hy⟩ : ∃ y : Nat, v / 8192 = y := ⟨_, rfl⟩
  have hy' : (v : Int) / 8192 = (y : Int) := by omega
  obtain ⟨x, hx⟩ : ∃ x : Nat, v % 8192 = x := ⟨_, rfl⟩
  have hx' : (v : Int) % 8192 = (x : Int) := by omega
  have hxlt : x < 8192 := by omega
  have hylt : y < 2251799813685248 := by omega
  have hl1 : ∀ w, Calls Try.prog 34 #[.int .u64 v, .int .i64 13] w fun e w' => e = .returned (.int .u64 x) ∧ w = w' := fun w => by
    rw [← hx]; exact pack_low v 13 (by decide) w
  obtain ⟨z, hz⟩ : ∃ z : Nat, y % 2 ^ n = z := ⟨_, rfl⟩
  have hl2 := fun w => pack_low y n (by omega) w
  rw [hz] at hl2
  have hzlt : z < 2251799813685248 := by rw [← hz]; exact Nat.lt_of_le_of_lt (Nat.mod_le _ _) hylt
  rw [hy, hx, hz]
  have hsh : (v : Int) / 2 ^ (13 + n) = ((y / 2 ^ n : Nat) : Int) := by
    rw [← hy, show (v : Int) / 2 ^ (13 + n) = ((v / 2 ^ (13 + n) : Nat) : Int) by simp, Nat.pow_add, ← Nat.div_div_eq_div_mul]
  obtain ⟨q, hq⟩ : ∃ q : Nat, y / 2 ^ n = q := ⟨_, rfl⟩
  rw [hq] at hsh
  have HQ : Hid (decide (y / 2 ^ n = 0 ∧ x ≤ 4096 + mo) = if q = 0 then decide (x ≤ 4096 + mo) else false) := by
    show _ = _
    rw [hq]; by_cases h : q = 0 <;> simp [h]
  rw [HQ.out]
  clear hy hx hz hq HQ
  by_cases hq0 : q = 0
  · rw [if_pos hq0]
    have t : ((q : Int) == 0) = true := by simp; omega
    clear hq0
    go_enter Try.func35, Try.ntmps35
    go_wp2_with (go_at_call 34; first | ((with_reducible refine (hl1 _).mono ?_); rintro e w' ⟨rfl, rfl⟩) | ((with_reducible refine (hl2 _).mono ?_); rintro e w' ⟨rfl, rfl⟩))
    refine bodyPost_ret (v := .tuple #[.int .i64 ((x : Int) - mo), .int .i64 ((z : Int) - mo), .bool (decide ((x : Int) - mo ≤ 4096))]) (by simp [results, Try.results35, go_sem]) rfl ⟨by rw [show decide ((x : Int) - mo ≤ 4096) = decide (x ≤ 4096 + mo) from decide_eq_decide.2 (by omega)], rfl⟩
  · rw [if_neg hq0]
    have t : ((q : Int) == 0) = false := by simp; omega
    clear hq0
    go_enter Try.func35, Try.ntmps35
    go_wp2_with (go_at_call 34; first | ((with_reducible refine (hl1 _).mono ?_); rintro e w' ⟨rfl, rfl⟩) | ((with_reducible refine (hl2 _).mono ?_); rintro e w' ⟨rfl, rfl⟩))
    refine bodyPost_ret (v := .tuple #[.int .i64 ((x : Int) - mo), .int .i64 ((z : Int) - mo), .bool false]) (by simp [results, Try.results35, go_sem]) rfl ⟨rfl, rfl⟩
theorem dec_true {p : Prop} [Decidable p] (h : p) : decide p = true := by simp [h]
theorem dec_false {p : Prop} [Decidable p] (h : ¬ p) : decide p = false := by simp [h]
/-- A pointer's cut, at the three places. -/
theorem cut_ref (v : Nat) (hv : v < 18446744073709551616) (w : World) :
    Calls Try.prog 35 #[.int .u64 v, .int .i64 40, .int .i64 0] w fun e w' => e = .returned (.tuple #[.int .i64 ((v % 8192 : Nat) : Int), .int .i64 ((v / 8192 % 1099511627776 : Nat) : Int), .bool (decide (v / 8192 / 1099511627776 = 0 ∧ v % 8192 ≤ 4096))]) ∧ w = w' := by
  have := pack_cut v 40 0 hv (by decide) (by decide) w
  rw [show ((0 : Nat) : Int) = 0 by rfl, Int.sub_zero, Int.sub_zero] at this
  exact this
theorem cut_ent (v : Nat) (hv : v < 18446744073709551616) (w : World) :
    Calls Try.prog 35 #[.int .u64 v, .int .i64 3, .int .i64 0] w fun e w' => e = .returned (.tuple #[.int .i64 ((v % 8192 : Nat) : Int), .int .i64 ((v / 8192 % 8 : Nat) : Int), .bool (decide (v / 8192 / 8 = 0 ∧ v % 8192 ≤ 4096))]) ∧ w = w' := by
  have := pack_cut v 3 0 hv (by decide) (by decide) w
  rw [show ((0 : Nat) : Int) = 0 by rfl, Int.sub_zero, Int.sub_zero] at this
  exact this
theorem cut_ring (v : Nat) (hv : v < 18446744073709551616) (w : World) :
    Calls Try.prog 35 #[.int .u64 v, .int .i64 13, .int .i64 1] w fun e w' => e = .returned (.tuple #[.int .i64 (((v % 8192 : Nat) : Int) - 1), .int .i64 (((v / 8192 % 8192 : Nat) : Int) - 1), .bool (decide (v / 8192 / 8192 = 0 ∧ v % 8192 ≤ 4097))]) ∧ w = w' :=
  pack_cut v 13 1 hv (by decide) (by decide) w
set_option maxRecDepth 100000 in
theorem pack_entry (v : Nat) (hv : v < 18446744073709551616) (w : World) :
    Calls Try.prog 20 #[.int .u64 v] w fun e w' => e = .returned (.tuple #[.int .i64 (entE v).1.1, .int .i64 (entE v).1.2, .int .i64 (entE v).2]) ∧ w = w' := by
  have hc := fun w => cut_ent v hv w
  by_cases h : 4096 < v % 8192 ∨ 7 < v / 8192
  · have HE : Hid (entE v = ((0, 0), 6)) := by show _ = _; unfold entE; rw [if_pos h]
    rw [dec_false (by omega)] at hc
    clear h
    go_enter Try.func20, Try.ntmps20
    go_wp2_with (go_at_call 35; refine (hc _).mono ?_; rintro e w' ⟨rfl, rfl⟩)
    refine bodyPost_ret (v := .tuple #[.int .i64 0, .int .i64 0, .int .i64 6]) (by simp [results, Try.results20, go_sem]) rfl ⟨by rw [HE.out], rfl⟩
  · have HE : Hid (entE v = ((((v % 8192 : Nat) : Int), ((v / 8192 : Nat) : Int)), 0)) := by show _ = _; unfold entE; rw [if_neg h]
    rw [dec_true (by omega), show v / 8192 % 8 = v / 8192 by omega] at hc
    obtain ⟨x, hx⟩ : ∃ x : Nat, v % 8192 = x := ⟨_, rfl⟩
    obtain ⟨y, hy⟩ : ∃ y : Nat, v / 8192 = y := ⟨_, rfl⟩
    rw [hx, hy] at hc HE
    clear h hx hy
    go_enter Try.func20, Try.ntmps20
    go_wp2_with (go_at_call 35; refine (hc _).mono ?_; rintro e w' ⟨rfl, rfl⟩)
    refine bodyPost_ret (v := .tuple #[.int .i64 x, .int .i64 y, .int .i64 0]) (by simp [results, Try.results20, go_sem]) rfl ⟨by rw [HE.out], rfl⟩
set_option maxRecDepth 100000 in
theorem pack_ring (v : Nat) (hv : v < 18446744073709551616) (w : World) :
    Calls Try.prog 18 #[.int .u64 v] w fun e w' => e = .returned (.tuple #[.int .i64 (ringE v).1.1, .int .i64 (ringE v).1.2, .int .i64 (ringE v).2]) ∧ w = w' := by
  have hc := fun w => cut_ring v hv w
  by_cases h : 4097 < v % 8192 ∨ 4097 < v / 8192
  · have HE : Hid (ringE v = ((0, 0), 6)) := by show _ = _; unfold ringE; rw [if_pos h]
    by_cases h2 : v / 8192 / 8192 = 0 ∧ v % 8192 ≤ 4097
    · rw [dec_true h2] at hc
      obtain ⟨x, hx⟩ : ∃ x : Nat, v % 8192 = x := ⟨_, rfl⟩
      obtain ⟨y, hy⟩ : ∃ y : Nat, v / 8192 % 8192 = y := ⟨_, rfl⟩
      have t : decide (4096 < (y : Int) - 1) = true := by simp; omega
      rw [hx, hy] at hc
      clear h h2 hx hy
      go_enter Try.func18, Try.ntmps18
      go_wp2_with (go_at_call 35; refine (hc _).mono ?_; rintro e w' ⟨rfl, rfl⟩)
      refine bodyPost_ret (v := .tuple #[.int .i64 0, .int .i64 0, .int .i64 6]) (by simp [results, Try.results18, go_sem]) rfl ⟨by rw [HE.out], rfl⟩
    · rw [dec_false h2] at hc
      clear h h2
      go_enter Try.func18, Try.ntmps18
      go_wp2_with (go_at_call 35; refine (hc _).mono ?_; rintro e w' ⟨rfl, rfl⟩)
      refine bodyPost_ret (v := .tuple #[.int .i64 0, .int .i64 0, .int .i64 6]) (by simp [results, Try.results18, go_sem]) rfl ⟨by rw [HE.out], rfl⟩
  · have HE : Hid (ringE v = ((((v % 8192 : Nat) : Int) - 1, ((v / 8192 : Nat) : Int) - 1), 0)) := by show _ = _; unfold ringE; rw [if_neg h]
    rw [dec_true (by omega), show v / 8192 % 8192 = v / 8192 by omega] at hc
    obtain ⟨x, hx⟩ : ∃ x : Nat, v % 8192 = x := ⟨_, rfl⟩
    obtain ⟨y, hy⟩ : ∃ y : Nat, v / 8192 = y := ⟨_, rfl⟩
    have t : decide (4096 < (y : Int) - 1) = false := by simp; omega
    rw [hx, hy] at hc HE
    clear h hx hy
    go_enter Try.func18, Try.ntmps18
    go_wp2_with (go_at_call 35; refine (hc _).mono ?_; rintro e w' ⟨rfl, rfl⟩)
    refine bodyPost_ret (v := .tuple #[.int .i64 ((x : Int) - 1), .int .i64 ((y : Int) - 1), .int .i64 0]) (by simp [results, Try.results18, go_sem]) rfl ⟨by rw [HE.out], rfl⟩
end Go.Proofs.Ytlfblckniikdiaa
