/- Walks of the laws over numbers that are written and read. -/
import Derived.Test.YtlfblckniikdiaaLitS
import Derived.Test.YtlfblckniikdiaaLitR
import Derived.Test.YtlfblckniikdiaaRngW
import Derived.Test.YtlfblckniikdiaaPerm
namespace Go.Proofs.Ytlfblckniikdiaa
open Go.RowKit
set_option maxRecDepth 100000 in
set_option maxHeartbeats 1000000 in
theorem begins2_any (w : World) : Calls Try.prog 7 #[] w fun e w' => e = .returned (.bool true) ∧ Below w.heap.size w w' := by
  go_enter Try.func7, Try.ntmps7
  go_wp2_with fail
  refine (rng_perm 1 4 _).mono ?_
  rintro e w1 ⟨⟨A, c, rfl, hc, hd⟩, hb1⟩
  rw [len_perm, show permLen 4 = 4 by decide] at hc hd ⊢
  go_wp2_with fail
  refine (lit_num 300 (by decide) _).mono ?_
  rintro e w2 ⟨rfl, hb2⟩
  have B2 := hb1.trans (hb2.mono hb1.size)
  clear hb1 hb2 hd
  go_wp2_with fail
  refine (lit_new (numL 300) _).mono ?_
  rintro e w3 ⟨rfl, hw3⟩
  have Q3 : RdrAt w3 w2.heap.size (numL 300) 0 := by rw [← hw3]; exact RdrAt.new w2 _
  have B3 : Below w.heap.size w w3 := by rw [← hw3]; exact B2.alloc B2.size _
  have hs := B2.size
  have hq := numOf_num 300 (by decide) []
  rw [List.append_nil] at hq
  have HQ := Lib.hid hq
  have R3 := Lib.hid Q3
  clear hw3 B2 hq Q3
  go_wp2_with fail
  refine (rdr_num w2.heap.size (numL 300) (bytes_num _) (by have := (len_num 300).1; omega) _ R3.out 300 _ 0 HQ).mono ?_
  rintro e w4 ⟨rfl, _, hg⟩
  have B4 := B3.trans (below_of_only hg B3.size (by omega))
  clear hg B3
  go_wp2_with fail
  go_ret
  exact ⟨rfl, B4⟩
end Go.Proofs.Ytlfblckniikdiaa
