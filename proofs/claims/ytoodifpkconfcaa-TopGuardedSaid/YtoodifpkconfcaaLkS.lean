/- Package lock: sorting no numbers. -/
import Derived.Test.YtoodifpkconfcaaMem
namespace Go.Proofs.Ytoodifpkconfcaa
open Go.RowKit
set_option maxRecDepth 100000 in
theorem len_zero (w : World) : Calls Try.prog 45 #[.int .u64 0] w fun e w' => e = .returned (.int .i64 0) ∧ w = w' := by
  have h : Calls Try.prog 56 #[.int .u64 0] w fun e w' => e = .returned (.int .i64 0) ∧ w = w' := by
    go_enter Try.func56, Try.ntmps56
    go_wp2
    go_ret
    exact ⟨by kernel_rfl, rfl⟩
  go_enter Try.func45, Try.ntmps45
  go_wp2_with fail
  refine h.mono ?_
  rintro e w' ⟨rfl, rfl⟩
  go_wp2_with fail
  go_ret
  exact ⟨rfl, rfl⟩
set_option maxRecDepth 100000 in
theorem ins_zero (w : World) : Calls Try.prog 46 #[.slice none 0 0, .int .i64 0, .int .i64 0] w fun e w' => e = .returned (.tuple #[]) ∧ w = w' := by
  go_enter Try.func46, Try.ntmps46
  go_wp2_with fail
  go_loopw [6] (fun a wx => a = .int .i64 1 ∧ wx = w) (fun _ _ => 0)
  case atStart => exact ⟨rfl, rfl⟩
  case round =>
    obtain ⟨rfl, rfl⟩ := hrel
    go_wp2_with fail
    (try simp only [Exit.inBlock, Exit.then]); refine bodyPost_end (v := .tuple #[]) (by simp [results, Try.results46, go_sem]) rfl ⟨rfl, rfl⟩
set_option maxRecDepth 100000 in
theorem pdq_zero (w : World) : Calls Try.prog 44 #[.slice none 0 0, .int .i64 0, .int .i64 0, .int .i64 0] w fun e w' => e = .returned (.tuple #[]) ∧ w = w' := by
  have h := Lib.hid (ins_zero w)
  go_enter Try.func44, Try.ntmps44
  go_wp2_with fail
  go_loopw [1, 2] (fun a b wx => a = .int .i64 0 ∧ b = .int .i64 0 ∧ wx = w) (fun _ _ _ => 0)
  case atStart => exact ⟨rfl, rfl, rfl⟩
  case round =>
    obtain ⟨rfl, rfl, rfl⟩ := hrel
    go_wp2_with fail
    refine h.out.mono ?_
    rintro e w' ⟨rfl, rfl⟩
    go_wp2_with fail
    refine bodyPost_ret (v := .tuple #[]) (by simp [results, Try.results44, go_sem]) rfl ⟨rfl, rfl⟩
set_option maxRecDepth 100000 in
theorem sort_zero (w : World) : Calls Try.prog 38 #[.slice none 0 0] w fun e w' => e = .returned (.tuple #[]) ∧ w = w' := by
  have h1 := Lib.hid (len_zero w)
  have h2 := Lib.hid (pdq_zero w)
  go_enter Try.func38, Try.ntmps38
  go_wp2_with (first
    | (go_at_call 45; refine h1.out.mono ?_; rintro e w' ⟨rfl, rfl⟩)
    | (go_at_call 44; refine h2.out.mono ?_; rintro e w' ⟨rfl, rfl⟩))
  (try simp only [Exit.inBlock, Exit.then]); refine bodyPost_end (v := .tuple #[]) (by simp [results, Try.results38, go_sem]) rfl ⟨rfl, rfl⟩
end Go.Proofs.Ytoodifpkconfcaa
