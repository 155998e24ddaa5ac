/- Stage 10: what the document gives (locks, epochs). -/
import Derived.Test.YtoodifpkconfcaaLkT
import Derived.Test.YtoodifpkconfcaaEpL
import Derived.Test.YtoodifpkconfcaaEpN
namespace Go.Proofs.Ytoodifpkconfcaa
open Go.RowKit
set_option maxRecDepth 100000 in
set_option maxHeartbeats 1000000 in
theorem begins10 (w : World) : Calls Try.prog 16 #[] w fun e w' => e = .returned (.bool true) ∧ Below w.heap.size w w' := by
  go_enter Try.func16, Try.ntmps16
  go_wp2_with fail
  refine (lk_new w).mono ?_
  rintro e w1 ⟨⟨t, hb, wb, rfl, hL, g1, g2, g3⟩, b1⟩
  have HL := Lib.hid hL
  have B1 := Lib.hid b1
  have G := Lib.hid (And.intro g1 (And.intro g2 g3))
  clear hL b1 g1 g2 g3
  go_wp2_with fail
  refine (ep_new 1 (by decide) (by decide) w1).mono ?_
  rintro e w2 ⟨g, gw, rfl, hE, b2⟩
  replace hE : EpAt w2 w1.heap.size ⟨g, gw, none, 0⟩ ⟨0, 0, [0, 0], []⟩ := hE
  have HL2 := Lib.hid (HL.out.below b2)
  have B2 := Lib.hid (B1.out.trans (b2.mono B1.out.size))
  have HE := Lib.hid hE
  have HLT := Lib.hid (And.intro HL.out.h.lt (And.intro HL.out.wt.lt HL.out.k.lt))
  clear hE b2 HL
  go_wp2_with fail
  refine (lk_take_ok HL2.out 0 1 (by decide) (by decide) (by decide) (by decide) (by decide) (by decide) rfl rfl (fun k c h => by have := h (.lit (.int .i64 1)); have h2 := h (.lit (.int .i64 2)); rw [show (Go.DataW.map [] : Go.DataW Unit).atKey (.int .i64 k) (.lit (.int .i64 1)) = .lit (.int .i64 1) from rfl] at this; rw [show (Go.DataW.map [] : Go.DataW Unit).atKey (.int .i64 k) (.lit (.int .i64 2)) = .lit (.int .i64 2) from rfl] at h2; rw [← this] at h2; injection h2 with h2; injection h2 with _ h2; omega) (by decide)).mono ?_
  rintro e w3 ⟨rfl, h3, t3⟩
  have hS : ∀ k, lkS hb wb k → w.heap.size ≤ k := by
    rintro k (rfl | rfl)
    · exact G.out.2.1
    · exact G.out.2.2
  have hK : ∀ (p : EpP) (W : World) (s : EpS), EpAt W w1.heap.size p s → ∀ W', Tch (lkS hb wb) W W' → EpAt W' w1.heap.size p s := by
    intro p W s h W' ht
    refine h.keep fun k hk => ht.block k (h.lt k hk) ?_
    have h1 := h.base_le k hk
    rintro (rfl | rfl)
    · have := HLT.out.1; omega
    · have := HLT.out.2.1; omega
  have HE3 := Lib.hid (hK _ _ _ HE.out _ t3)
  have B3 := Lib.hid (B2.out.trans (t3.below B2.out.size hS))
  have HL3 := Lib.hid h3
  have HS := Lib.hid hS
  have HK := Lib.hid hK
  clear h3 t3 hS hK HL2 HE B2
  go_wp2_with fail
  refine (lk_take_no HL3.out 1 1 (by decide) (by decide) (by decide) (by decide) (by decide) (by decide) 0 at_one rfl has_one no_one (by decide)).mono ?_
  rintro e w4 ⟨rfl, t4⟩
  have HE4 := Lib.hid (HK.out _ _ _ HE3.out _ t4)
  have B4 := Lib.hid (B3.out.trans (t4.below B3.out.size HS.out))
  clear t4 HE3 B3 HL3
  go_wp2_with fail
  refine (ep_look _ _ _ w4 HE4.out (by decide) (by decide) (by decide)).mono ?_
  rw [show EpS.looked ⟨0, 0, [0, 0], []⟩ = true by decide]
  rintro e w5 ⟨rfl, _, t5⟩
  have hbl := fun k hk => Nat.le_trans B1.out.size (HE4.out.base_le k hk)
  have B5 := B4.out.trans (t5.below B4.out.size hbl)
  clear t5
  go_wp2_with fail
  go_ret
  exact ⟨rfl, B5⟩
end Go.Proofs.Ytoodifpkconfcaa
