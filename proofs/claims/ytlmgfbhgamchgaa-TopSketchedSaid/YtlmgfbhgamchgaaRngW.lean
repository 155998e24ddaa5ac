/- Walks of package rng and of its reference: the functions on numbers. Each contract says what the call returns, and that the world is left alone. -/
import Derived.Test.YtlmgfbhgamchgaaBase
import Derived.Test.YtlmgfbhgamchgaaRngP
namespace Go.Proofs.Ytlmgfbhgamchgaa
open Go.RowKit

theorem rng_mix (x : Int) (w : World) :
    Calls Try.prog 61 #[.int .u64 x] w fun e w' => e = .returned (.int .u64 (mixI x)) ∧ w = w' := by
  go_enter Try.func61, Try.ntmps61
  go_wp2
  go_ret
  exact ⟨rfl, rfl⟩
theorem rng_at (x n : Int) (w : World) :
    Calls Try.prog 47 #[.int .u64 x, .int .u64 n] w fun e w' => e = .returned (.int .u64 (atI x n)) ∧ w = w' := by
  go_enter Try.func47, Try.ntmps47
  go_wp2_with (go_at_call 61; refine (rng_mix _ _).mono ?_; rintro e w' ⟨rfl, rfl⟩)
  go_ret
  exact ⟨rfl, rfl⟩
end Go.Proofs.Ytlmgfbhgamchgaa
