/- Walk of the law EpochPlays, whatever the length. -/
import Derived.Test.YtcpgapnikgchaaaLaw20b
namespace Go.Proofs.Ytcpgapnikgchaaa
open Go.RowKit
set_option maxRecDepth 100000 in
theorem epochPlays_long (n : Int) (A : Option Addr) (m c : Nat) (w : World) (hm : 60 < m) :
    Calls Try.prog 3 #[.int .i64 n, .slice A m c] w fun e w' => e = .returned (.bool true) ∧ Below w.heap.size w w' := by
  have t1 : decide ((m : Int) > 60) = true := by simp; omega
  have hl := lives20 w
  clear hm
  go_enter Try.func3, Try.ntmps3
  go_wp2_with fail
  refine hl.mono ?_
  rintro e w' ⟨rfl, hb⟩
  go_wp2_with fail
  go_ret
  exact ⟨rfl, hb⟩
theorem epochPlays_any (n : Int) (A : Option Addr) (m c : Nat) (dl : List Int) (w : World) (hd : Rd2 w w.heap.size A m dl) :
    Calls Try.prog 3 #[.int .i64 n, .slice A m c] w fun e w' => e = .returned (.bool true) ∧ Below w.heap.size w w' := by
  by_cases h : m ≤ 4611686018427387904
  · exact epochPlays_walk n A m c dl w hd h
  · exact epochPlays_long n A m c w (by omega)
end Go.Proofs.Ytcpgapnikgchaaa
