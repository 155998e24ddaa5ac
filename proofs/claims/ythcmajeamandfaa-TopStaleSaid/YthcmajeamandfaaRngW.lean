/- Walks of package rng and of its reference: the functions on numbers. Each contract says what the call returns, and that the world is left alone. -/
import Derived.Test.YthcmajeamandfaaBase
import Derived.Test.YthcmajeamandfaaRngP
namespace Go.Proofs.Ythcmajeamandfaa
open Go.RowKit

theorem rng_mix (x : Int) (w : World) :
    Calls Try.prog 27 #[.int .u64 x] w fun e w' => e = .returned (.int .u64 (mixI x)) ∧ w = w' := by
  go_enter Try.func27, Try.ntmps27
  go_wp2
  go_ret
  exact ⟨rfl, rfl⟩
theorem mul64_any (x y : Int) (hx : Word x) (hy : Word y) (w : World) :
    Calls Try.prog 31 #[.int .u64 x, .int .u64 y] w fun e w' => e = .returned (.tuple #[.int .u64 (belowI x y), .int .u64 (IntKind.u64.wrap (x * y))]) ∧ w = w' := by
  have H := Lib.hid (mul64_arith x y hx.1 hx.2 hy.1 hy.2)
  have X := Lib.hid (and_low32 x hx.1 hx.2)
  have Y := Lib.hid (and_low32 y hy.1 hy.2)
  clear hx hy
  go_enter Try.func31, Try.ntmps31
  go_wp2
  go_ret2
  refine ⟨?_, rfl⟩
  simp only [Array.getD_eq_getD_getElem?, List.getElem?_toArray, List.getElem?_cons_succ, List.getElem?_cons_zero, Option.getD_some]
  rw [X.out, Y.out, and_low32 _ (word_wrap _).1 (word_wrap _).2]
  simp only [wrap_u64] at *
  rw [H.out]
  rfl
theorem rng_below (x y : Int) (hx : Word x) (hy : Word y) (w : World) :
    Calls Try.prog 26 #[.int .u64 x, .int .u64 y] w fun e w' => e = .returned (.int .u64 (belowI x y)) ∧ w = w' := by
  have X := Lib.hid hx
  have Y := Lib.hid hy
  clear hx hy
  go_enter Try.func26, Try.ntmps26
  go_wp2_with (go_at_call 31; refine (mul64_any _ _ X.out Y.out _).mono ?_; rintro e w' ⟨rfl, rfl⟩)
  go_ret
  exact ⟨rfl, rfl⟩
end Go.Proofs.Ythcmajeamandfaa
