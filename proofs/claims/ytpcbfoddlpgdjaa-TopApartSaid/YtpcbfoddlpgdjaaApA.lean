/- choose.sorted: candidates in order. -/
import Derived.Test.YtpcbfoddlpgdjaaSyU
import Derived.Test.YtpcbfoddlpgdjaaRkS
namespace Go.Proofs.Ytpcbfoddlpgdjaa
open Go.RowKit
theorem cd_spotS {w : World} {b t : Nat} {x : Cd} (h : Blk w b t x.cells) : (Instr.loadAt 35 (.pointer (some ⟨b, 0, none⟩))).run Try.prog w = .ok (spV x.sp) w :=
  range_load (xs := spC x.sp) (fun j v hv => by
    have hj : j < 3 := (List.getElem?_eq_some_iff.1 hv).1
    rw [Nat.zero_add, h.cell, ← Array.getElem?_toList, ← hv]
    rcases (by omega : j = 0 ∨ j = 1 ∨ j = 2) with rfl | rfl | rfl <;> rfl) Try.underlying35 rfl spotTK
def ltC (x y : Cd) : Bool := ahB x.sp y.sp
theorem ahB_asy {x y : Sp} (h : ahB x y = true) : ahB y x = false := by rw [ahB_iff] at h; rw [ahB_false]; omega
set_option maxRecDepth 100000 in
theorem cmp_walk (x y : Cd) (W : World) : Calls Try.prog 63 #[x.v, y.v] W fun e w' => ∃ r : Int, e = .returned (.int .i64 r) ∧ decide (r < 0) = ltC x y ∧ Below W.heap.size W w' := by
  obtain ⟨w1, hw1⟩ : ∃ q, W.alloc (.cells x.cells 90) = q := ⟨_, rfl⟩
  obtain ⟨w2, hw2⟩ : ∃ q, w1.alloc (.cells y.cells 90) = q := ⟨_, rfl⟩
  have b1 : Below W.heap.size W w1 := by rw [← hw1]; exact bel_box _ _
  have b2 : Below w1.heap.size w1 w2 := by rw [← hw2]; exact bel_box _ _
  have k1 : Blk w1 W.heap.size 90 x.cells := by rw [← hw1]; exact Blk.new _ _ _
  have k2 : Blk w2 w1.heap.size 90 y.cells := by rw [← hw2]; exact Blk.new _ _ _
  have B2 : Hid (Below W.heap.size W w2) := b1.trans (b2.mono b1.size)
  have KX : Hid (Blk w2 W.heap.size 90 x.cells) := k1.below b2 k1.lt
  have KY : Hid (Blk w2 w1.heap.size 90 y.cells) := k2
  have LX := cd_spotS KX.out
  have LY := cd_spotS KY.out
  have HR := Lib.hid (rank_spot x.sp y.sp w2)
  have HR2 := Lib.hid (fun w => rank_spot y.sp x.sp w)
  have HX := Lib.hid KX.out
  unfold Cd.v
  cases h1 : ahB x.sp y.sp with
  | true =>
    have HL : Hid (ltC x y = true) := h1
    rw [h1] at HR
    clear h1 b1 b2 k1 k2
    go_enter Try.func63, Try.ntmps63
    go_upto_region 1 with fail
    (try rw [hw1])
    (try rw [hw2])
    go_wp2_with (first
      | refine wpList_loadE LX _ rfl rfl rfl ?_
      | refine wpList_loadE LY _ rfl rfl rfl ?_
      | (go_at_call 21; (with_reducible refine HR.out.mono ?_); rintro e w3 ⟨rfl, g3⟩; have G3 := Lib.hid g3.below; clear g3))
    go_ret
    exact ⟨_, rfl, by rw [HL.out]; rfl, B2.out.trans (G3.out.mono B2.out.size)⟩
  | false =>
    have HL : Hid (ltC x y = false) := h1
    rw [h1] at HR
    clear h1 b1 b2 k1 k2
    cases h2 : ahB y.sp x.sp with
    | true =>
      simp only [h2] at HR2
      clear h2
      go_enter Try.func63, Try.ntmps63
      go_upto_region 1 with fail
      (try rw [hw1])
      (try rw [hw2])
      go_upto_region 3 with (first
        | refine wpList_loadE LX _ rfl rfl rfl ?_
        | refine wpList_loadE LY _ rfl rfl rfl ?_
        | (go_at_call 21; (with_reducible refine HR.out.mono ?_); rintro e w3 ⟨rfl, g3⟩; have G3 := Lib.hid g3.below; clear g3))
      have LX3 := cd_spotS (KX.out.below G3.out KX.out.lt)
      have LY3 := cd_spotS (KY.out.below G3.out KY.out.lt)
      go_wp2_with (first
        | refine wpList_loadE LX3 _ rfl rfl rfl ?_
        | refine wpList_loadE LY3 _ rfl rfl rfl ?_
        | (go_at_call 21; (with_reducible refine (HR2.out w3).mono ?_); rintro e w4 ⟨rfl, g4⟩; have G4 := Lib.hid g4.below; clear g4))
      go_ret
      exact ⟨_, rfl, by rw [HL.out]; rfl, (B2.out.trans (G3.out.mono B2.out.size)).trans (G4.out.mono (Nat.le_trans B2.out.size G3.out.size))⟩
    | false =>
      simp only [h2] at HR2
      clear h2
      go_enter Try.func63, Try.ntmps63
      go_upto_region 1 with fail
      (try rw [hw1])
      (try rw [hw2])
      go_upto_region 3 with (first
        | refine wpList_loadE LX _ rfl rfl rfl ?_
        | refine wpList_loadE LY _ rfl rfl rfl ?_
        | (go_at_call 21; (with_reducible refine HR.out.mono ?_); rintro e w3 ⟨rfl, g3⟩; have G3 := Lib.hid g3.below; clear g3))
      have LX3 := cd_spotS (KX.out.below G3.out KX.out.lt)
      have LY3 := cd_spotS (KY.out.below G3.out KY.out.lt)
      go_wp2_with (first
        | refine wpList_loadE LX3 _ rfl rfl rfl ?_
        | refine wpList_loadE LY3 _ rfl rfl rfl ?_
        | (go_at_call 21; (with_reducible refine (HR2.out w3).mono ?_); rintro e w4 ⟨rfl, g4⟩; have G4 := Lib.hid g4.below; clear g4))
      go_ret
      exact ⟨_, rfl, by rw [HL.out]; rfl, (B2.out.trans (G3.out.mono B2.out.size)).trans (G4.out.mono (Nat.le_trans B2.out.size G3.out.size))⟩
theorem cmpOk : CmpOk ltC := ⟨fun x y z h1 h2 => by unfold ltC at *; rw [ahB_false] at *; omega, fun _ _ h => ahB_asy h, cmp_walk⟩
end Go.Proofs.Ytpcbfoddlpgdjaa
