/- Walks of package rng: the level of a node, in the program and in the reference. -/
import Derived.Test.YtknnalaemndnaaaRngW
import Derived.Deep.DeepMust
namespace Go.Proofs.Ytknnalaemndnaaa
open Go.RowKit

def lvlFrom (d m : Int) : Nat → Nat → Nat
  | 0, l => l
  | k + 1, l => if belowI (atI d l) m = 0 then lvlFrom d m k (l + 1) else l
/-- How high a node is. -/
def lvlI (d m : Int) : Nat := lvlFrom d m 7 0
/-- The links that count. -/
def lvlM (n : Int) : Int := min (max n 2) 32
theorem lvlM_bd (n : Int) : 2 ≤ lvlM n ∧ lvlM n ≤ 32 := by unfold lvlM; omega
theorem lvl_yes {d m : Int} {l : Nat} (hl : l < 7) (h : belowI (atI d l) m = 0) : lvlFrom d m (7 - l) l = lvlFrom d m (7 - (l + 1)) (l + 1) := by
  rw [show 7 - l = (7 - (l + 1)) + 1 by omega, lvlFrom, if_pos h]
theorem lvl_no {d m : Int} {l : Nat} (hl : l < 7) (h : belowI (atI d l) m ≠ 0) : lvlFrom d m (7 - l) l = l := by
  rw [show 7 - l = (7 - (l + 1)) + 1 by omega, lvlFrom, if_neg h]

set_option maxHeartbeats 400000 in
theorem ref_level (x n : Int) (w : World) :
    Calls Try.prog 22 #[.int .u64 x, .int .i64 n] w fun e w' => e = .returned (.int .i64 (lvlI x (lvlM n))) ∧ w = w' := by
  have m1 : 2 ≤ min (max n 2) 32 := by omega
  have m2 : min (max n 2) 32 ≤ 32 := by omega
  have HM : Hid (lvlM n = min (max n 2) 32) := rfl
  go_enter Try.func22, Try.ntmps22
  go_wp2
  generalize min (max n 2) 32 = m at m1 m2 HM ⊢
  go_loop [6] (fun i => ∃ l : Nat, l ≤ 7 ∧ i = .int .i64 l ∧ lvlFrom x m (7 - l) l = lvlI x m) (fun i => (200 - intOf i).toNat)
  case atStart => exact ⟨0, by omega, rfl, rfl⟩
  case round =>
    obtain ⟨l, hl, rfl, hv⟩ := hrel
    have HV := Lib.hid hv
    clear hv
    by_cases hlt : l < 7
    · by_cases hz : belowI (atI x l) m = 0
      · have hz' : (belowI (atI x l) m != 0) = false := by simp [hz]
        have HY := Lib.hid (lvl_yes hlt hz)
        clear hz
        go_wp2_with (first
          | (go_at_call 18; refine (ref_at _ _ _).mono ?_; rintro e w' ⟨rfl, rfl⟩; rw [ratI_eq])
          | (go_at_call 20; refine (ref_below _ _ (word_at _ _) (word_small (by omega) (by omega)) _).mono ?_; rintro e w' ⟨rfl, rfl⟩))
        go_round
        case rel => exact ⟨l + 1, by omega, by go_num, by rw [← HY.out, HV.out]⟩
        case measure => simp [intOf]; omega
      · have hz' : (belowI (atI x l) m != 0) = true := by simp [hz]
        have HY := Lib.hid (lvl_no hlt hz)
        clear hz
        go_wp2_with (first
          | (go_at_call 18; refine (ref_at _ _ _).mono ?_; rintro e w' ⟨rfl, rfl⟩; rw [ratI_eq])
          | (go_at_call 20; refine (ref_below _ _ (word_at _ _) (word_small (by omega) (by omega)) _).mono ?_; rintro e w' ⟨rfl, rfl⟩))
        go_ret
        exact ⟨ret_int (by rw [HM.out, ← HV.out, HY.out]), rfl⟩
    · obtain rfl : l = 7 := by omega
      go_wp2
      go_ret
      exact ⟨ret_int (by rw [HM.out, ← HV.out]; rfl), rfl⟩
set_option maxHeartbeats 1000000 in
theorem rng_level (x n : Int) (w : World) :
    Calls Try.prog 21 #[.int .u64 x, .int .i64 n] w fun e w' => e = .returned (.int .i64 (lvlI x (lvlM n))) ∧ w = w' := by
  have m1 : 2 ≤ min (max n 2) 32 := by omega
  have m2 : min (max n 2) 32 ≤ 32 := by omega
  have HM : Hid (lvlM n = min (max n 2) 32) := rfl
  obtain ⟨m, hm⟩ : ∃ m, min (max n 2) 32 = m := ⟨_, rfl⟩
  rw [hm] at m1 m2 HM
  go_enter Try.func21, Try.ntmps21
  go_wp2
  refine wp_scope_jumps 0 (fun a' w' => w' = w ∧ ∃ (l : Nat) (u7 u8 u9 u10 u11 u12 u13 u14 u15 u16 u17 u18 u19 u20 u21 u22 u23 u24 : Value), a' = { tmps := #[.int .u64 x, .int .i64 n, undef, undef, .int .i64 0, .int .u64 m, .int .i64 l, u7, u8, u9, u10, u11, u12, u13, u14, u15, u16, u17, u18, u19, u20, u21, u22, u23, u24], defers := [] } ∧ l ≤ 7 ∧ lvlFrom x m (7 - l) l = lvlI x m) (fun a' _ => (7 - intOf (a'.tmps.getD 6 undef)).toNat) rfl ?_ ?_
  · by_cases hz : belowI (atI x 0) m = 0
    · have hz' : (belowI (atI x 0) m == 0) = true := by simp [hz]
      have HY := Lib.hid (lvl_yes (l := 0) (by decide) hz)
      clear hz
      go_wp2
      go_step3
      go_wp2_with (first
          | (go_at_call 17; refine (rng_at _ _ _).mono ?_; rintro e w' ⟨rfl, rfl⟩)
          | (go_at_call 19; refine (rng_below _ _ (word_at _ _) (word_small (by omega) (by omega)) _).mono ?_; rintro e w' ⟨rfl, rfl⟩))
      go_step3
      exact ⟨rfl, rfl, 1, _, _, _, _, _, _, _, _, _, _, _, _, _, _, _, _, _, _, rfl, by decide, HY.out.symm⟩
    · have hz' : (belowI (atI x 0) m == 0) = false := by simp [hz]
      have HY := Lib.hid (lvl_no (l := 0) (by decide) hz)
      clear hz
      go_wp2
      go_step3
      go_wp2_with (first
          | (go_at_call 17; refine (rng_at _ _ _).mono ?_; rintro e w' ⟨rfl, rfl⟩)
          | (go_at_call 19; refine (rng_below _ _ (word_at _ _) (word_small (by omega) (by omega)) _).mono ?_; rintro e w' ⟨rfl, rfl⟩))
      simp only [Exit.jump]
      go_ret
      exact ⟨ret_int (by rw [HM.out]; exact congrArg Int.ofNat (HY.out).symm), rfl⟩
  · rintro a' w' ⟨rfl, l, u7, u8, u9, u10, u11, u12, u13, u14, u15, u16, u17, u18, u19, u20, u21, u22, u23, u24, rfl, hl, hv⟩
    have HV := Lib.hid hv
    clear hv
    by_cases hlt : l < 7
    · by_cases hz : belowI (atI x l) m = 0
      · have hz' : (belowI (atI x l) m == 0) = true := by simp [hz]
        have HY := Lib.hid (lvl_yes hlt hz)
        clear hz
        go_wp2_with (first
            | (go_at_call 17; refine (rng_at _ _ _).mono ?_; rintro e w' ⟨rfl, rfl⟩)
            | (go_at_call 19; refine (rng_below _ _ (word_at _ _) (word_small (by omega) (by omega)) _).mono ?_; rintro e w' ⟨rfl, rfl⟩))
        go_step3
        refine ⟨rfl, ⟨rfl, l + 1, _, _, _, _, _, _, _, _, _, _, _, _, _, _, _, _, _, _, rfl, by omega, by rw [← HY.out]; exact HV.out⟩, by simp [intOf]; omega⟩
      · have hz' : (belowI (atI x l) m == 0) = false := by simp [hz]
        have HY := Lib.hid (lvl_no hlt hz)
        clear hz
        go_wp2_with (first
            | (go_at_call 17; refine (rng_at _ _ _).mono ?_; rintro e w' ⟨rfl, rfl⟩)
            | (go_at_call 19; refine (rng_below _ _ (word_at _ _) (word_small (by omega) (by omega)) _).mono ?_; rintro e w' ⟨rfl, rfl⟩))
        simp only [Exit.jump]
        go_ret
        exact ⟨ret_int (by rw [HM.out, ← HV.out, HY.out]), rfl⟩
    · obtain rfl : l = 7 := by omega
      go_wp2
      simp only [Exit.jump]
      go_ret
      exact ⟨ret_int (by rw [HM.out, ← HV.out]; rfl), rfl⟩
end Go.Proofs.Ytknnalaemndnaaa
