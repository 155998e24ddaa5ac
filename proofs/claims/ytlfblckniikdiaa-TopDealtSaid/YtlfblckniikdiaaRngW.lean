/- Walks of package rng and of its reference: the functions on numbers. Each contract says what the call returns, and that the world is left alone. -/
import Derived.Test.YtlfblckniikdiaaBase
import Derived.Test.YtlfblckniikdiaaRngP
namespace Go.Proofs.Ytlfblckniikdiaa
open Go.RowKit

theorem rng_mix (x : Int) (w : World) :
    Calls Try.prog 21 #[.int .u64 x] w fun e w' => e = .returned (.int .u64 (mixI x)) ∧ w = w' := by
  go_enter Try.func21, Try.ntmps21
  go_wp2
  go_ret
  exact ⟨rfl, rfl⟩
set_option maxHeartbeats 400000 in
theorem rng_unshift (z n : Int) (h1 : 22 ≤ n) (h2 : n < 32) (w : World) :
    Calls Try.prog 36 #[.int .u64 z, .int .i64 n] w fun e w' => e = .returned (.int .u64 (unshI z n)) ∧ w = w' := by
  go_enter Try.func36, Try.ntmps36
  go_wp2
  go_loop [0, 1] (fun z' n' => (n' = .int .i64 n ∧ z' = .int .u64 z) ∨ (n' = .int .i64 (n * 2) ∧ z' = .int .u64 (bits .xor .u64 z (z / 2 ^ n.toNat))) ∨ (n' = .int .i64 (n * 4) ∧ z' = .int .u64 (unshI z n)))
    (fun _ n' => (200 - intOf n').toNat)
  case atStart => exact .inl ⟨rfl, rfl⟩
  case round =>
    rcases hrel with ⟨rfl, rfl⟩ | ⟨rfl, rfl⟩ | ⟨rfl, rfl⟩
    · go_wp2
      go_round
      case rel => exact .inr (.inl ⟨rfl, rfl⟩)
      case measure => simp [intOf]; omega
    · go_wp2
      go_round
      case rel => exact .inr (.inr ⟨by go_num, rfl⟩)
      case measure => simp [intOf]; omega
    · go_wp2
      go_ret
      exact ⟨rfl, rfl⟩
set_option maxHeartbeats 400000 in
theorem rng_inverse (x : Int) (w : World) :
    Calls Try.prog 37 #[.int .u64 x] w fun e w' => e = .returned (.int .u64 (turnN x 5)) ∧ w = w' := by
  go_enter Try.func37, Try.ntmps37
  go_wp2
  go_loop [3, 4] (fun y i => (i = .int .i64 3 ∧ y = .int .u64 (turnN x 0)) ∨ (i = .int .i64 6 ∧ y = .int .u64 (turnN x 1)) ∨ (i = .int .i64 12 ∧ y = .int .u64 (turnN x 2)) ∨ (i = .int .i64 24 ∧ y = .int .u64 (turnN x 3)) ∨ (i = .int .i64 48 ∧ y = .int .u64 (turnN x 4)) ∨ (i = .int .i64 96 ∧ y = .int .u64 (turnN x 5)))
    (fun _ i => (200 - intOf i).toNat)
  case atStart => exact .inl ⟨rfl, rfl⟩
  case round =>
    rcases hrel with ⟨rfl, rfl⟩ | ⟨rfl, rfl⟩ | ⟨rfl, rfl⟩ | ⟨rfl, rfl⟩ | ⟨rfl, rfl⟩ | ⟨rfl, rfl⟩
    iterate 5
      · go_wp2
        go_round
        case rel => simp [turnN, turnI]
        case measure => simp [intOf]
    · go_wp2
      go_ret
      exact ⟨rfl, rfl⟩
set_option maxHeartbeats 400000 in
theorem rng_unmix (z : Int) (w : World) :
    Calls Try.prog 22 #[.int .u64 z] w fun e w' => e = .returned (.int .u64 (unmixI z)) ∧ w = w' := by
  go_enter Try.func22, Try.ntmps22
  go_wp2_with (first
    | (go_at_call 36; refine (rng_unshift _ _ (by decide) (by decide) _).mono ?_; rintro e w' ⟨rfl, rfl⟩)
    | (go_at_call 37; refine (rng_inverse _ _).mono ?_; rintro e w' ⟨rfl, rfl⟩))
  go_ret
  exact ⟨rfl, rfl⟩
theorem rng_at (x n : Int) (w : World) :
    Calls Try.prog 28 #[.int .u64 x, .int .u64 n] w fun e w' => e = .returned (.int .u64 (atI x n)) ∧ w = w' := by
  go_enter Try.func28, Try.ntmps28
  go_wp2_with (go_at_call 21; refine (rng_mix _ _).mono ?_; rintro e w' ⟨rfl, rfl⟩)
  go_ret
  exact ⟨rfl, rfl⟩
theorem mul64_any (x y : Int) (hx : Word x) (hy : Word y) (w : World) :
    Calls Try.prog 42 #[.int .u64 x, .int .u64 y] w fun e w' => e = .returned (.tuple #[.int .u64 (belowI x y), .int .u64 (IntKind.u64.wrap (x * y))]) ∧ w = w' := by
  have H := Lib.hid (mul64_arith x y hx.1 hx.2 hy.1 hy.2)
  have X := Lib.hid (and_low32 x hx.1 hx.2)
  have Y := Lib.hid (and_low32 y hy.1 hy.2)
  clear hx hy
  go_enter Try.func42, Try.ntmps42
  go_wp2
  go_ret2
  refine ⟨?_, rfl⟩
  simp only [Array.getD_eq_getD_getElem?, List.getElem?_toArray, List.getElem?_cons_succ, List.getElem?_cons_zero, Option.getD_some]
  rw [X.out, Y.out, and_low32 _ (word_wrap _).1 (word_wrap _).2]
  simp only [wrap_u64] at *
  rw [H.out]
  rfl
theorem rng_below (x y : Int) (hx : Word x) (hy : Word y) (w : World) :
    Calls Try.prog 27 #[.int .u64 x, .int .u64 y] w fun e w' => e = .returned (.int .u64 (belowI x y)) ∧ w = w' := by
  have X := Lib.hid hx
  have Y := Lib.hid hy
  clear hx hy
  go_enter Try.func27, Try.ntmps27
  go_wp2_with (go_at_call 42; refine (mul64_any _ _ X.out Y.out _).mono ?_; rintro e w' ⟨rfl, rfl⟩)
  go_ret
  exact ⟨rfl, rfl⟩
end Go.Proofs.Ytlfblckniikdiaa
