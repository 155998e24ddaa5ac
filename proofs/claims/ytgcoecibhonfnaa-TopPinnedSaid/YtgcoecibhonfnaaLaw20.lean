/- What the document gives of the epochs' clock: lives. -/
import Derived.Test.YtgcoecibhonfnaaEpG
import Derived.Test.YtgcoecibhonfnaaSame
namespace Go.Proofs.Ytgcoecibhonfnaa
open Go.RowKit
theorem EpAt.tb {w w' : World} {base : Nat} {p : EpP} {s : EpS} (h : EpAt w base p s) (hb : base ≤ w.heap.size) (ht : Tch p.blk w w') : Below base w w' := ht.below hb h.base_le
theorem Rd.one (w : World) (t : Nat) (kd : IntKind) (a : Int) : Rd (w.alloc (.cells #[.int kd a] t)) (w.alloc (.cells #[.int kd a] t)).heap.size (some ⟨w.heap.size, 0, none⟩) 1 ([a].map (.int kd)) :=
  IB.rd (g := w.heap.size) (t := t) (cs := [a]) ⟨[], heap_alloc_new w _⟩
theorem own_rd {w : World} {base e n c : Nat} {A : Option Addr} {zs : List Int} (h : w.ownsRow base e 1 (.slice A n c) n (zs.map (.int .i64))) : Rd w w.heap.size A n (zs.map (.int .i64)) ∧ n = zs.length :=
  ⟨Rd.of_own h, by have := h.1; simpa using this.symm⟩
set_option maxRecDepth 100000 in
set_option maxHeartbeats 1000000 in
theorem lives20 (w : World) : Calls Try.prog 5 #[] w fun e w' => e = .returned (.bool true) ∧ Below w.heap.size w w' := by
  go_enter Try.func5, Try.ntmps5
  go_wp2_with fail
  refine (ep_new 1 (by decide) (by decide) w).mono ?_
  rintro e w1 ⟨g, gw, rfl, h1, B1⟩
  replace h1 : EpAt w1 w.heap.size ⟨g, gw, none, 0⟩ ⟨0, 0, [0, 0], []⟩ := h1
  have H1 := Lib.hid h1
  clear h1
  go_wp2_with fail
  refine (ep_new_not 65 (by decide) w1).mono ?_
  rintro e w' ⟨rfl, rfl⟩
  go_wp2_with fail
  refine (ep_retire _ _ _ 5 w1 H1.out B1.size (by decide) (by decide)).mono ?_
  rintro e w2 ⟨rfl, ⟨B, d, h2, _⟩, t2⟩
  have B2 := B1.trans (H1.out.tb B1.size t2)
  replace h2 : EpAt w2 w.heap.size ⟨g, gw, B, d⟩ ⟨0, 0, [0, 0], [5, 0]⟩ := h2
  have H2 := Lib.hid h2
  clear H1 B1 h2 t2
  go_wp2_with fail
  refine (ep_retire_has _ _ _ 5 w2 H2.out (by decide) (by decide)).mono ?_
  rintro e w3 ⟨rfl, b3⟩
  have B3 := B2.trans (b3.mono B2.size)
  have H3 := Lib.hid (H2.out.below b3)
  clear H2 B2 b3
  go_wp2_with fail
  refine (ep_free _ _ _ w3 H3.out (by decide) (by decide)).mono ?_
  rintro e w4 ⟨⟨O1, n1, c1, rfl, o1⟩, h4, t4⟩
  rw [show outN [5, 0] ((0 : Nat) : Int) (EpS.k ⟨0, 0, [0, 0], [5, 0]⟩) = [] by decide] at o1
  obtain rfl : n1 = 0 := (own_rd o1).2
  replace h4 : EpAt w4 w.heap.size ⟨g, gw, B, d⟩ ⟨0, 0, [0, 0], [5, 0]⟩ := h4
  have B4 := B3.trans (H3.out.tb B3.size t4)
  have H4 := Lib.hid h4
  clear H3 B3 h4 t4 o1
  go_wp2_with fail
  refine (ep_look _ _ _ w4 H4.out (by decide) (by decide) (by decide)).mono ?_
  rw [show EpS.looked ⟨0, 0, [0, 0], [5, 0]⟩ = true by decide, show EpS.look ⟨0, 0, [0, 0], [5, 0]⟩ = ⟨1, 0, [0, 0], [5, 0]⟩ by rfl]
  rintro e w5 ⟨rfl, h5, t5⟩
  have B5 := B4.trans (H4.out.tb B4.size t5)
  have H5 := Lib.hid h5
  clear H4 B4 h5 t5
  go_wp2_with fail
  refine (ep_load _ _ _ 0 w5 H5.out (by decide)).mono ?_
  rintro e w6 ⟨rfl, h6, t6⟩
  replace h6 : EpAt w6 w.heap.size ⟨g, gw, B, d⟩ ⟨1, 0, [1, 0], [5, 0]⟩ := h6
  have B6 := B5.trans (H5.out.tb B5.size t6)
  have H6 := Lib.hid h6
  clear H5 B5 h6 t6
  go_wp2_with fail
  refine (ep_pin _ _ _ 0 w6 H6.out (by decide) (by decide) 1 (by decide) (by decide) (by decide)).mono ?_
  rintro e w7 ⟨rfl, h7, t7⟩
  replace h7 : EpAt w7 w.heap.size ⟨g, gw, B, d⟩ ⟨1, 0, [1, 2], [5, 0]⟩ := h7
  have B7 := B6.trans (H6.out.tb B6.size t7)
  have H7 := Lib.hid h7
  clear H6 B6 h7 t7
  go_wp2_with fail
  refine (ep_pin_no _ _ _ 0 w7 H7.out (by decide) (by decide)).mono ?_
  rintro e w' ⟨rfl, rfl⟩
  go_wp2_with fail
  refine (ep_rec _ _ _ 0 w7 H7.out (by decide)).mono ?_
  rw [show EpS.rec_ ⟨1, 0, [1, 2], [5, 0]⟩ 0 = 2 by decide]
  rintro e w' ⟨rfl, rfl⟩
  go_wp2_with fail
  refine (ep_look _ _ _ w7 H7.out (by decide) (by decide) (by decide)).mono ?_
  rw [show EpS.looked ⟨1, 0, [1, 2], [5, 0]⟩ = true by decide, show EpS.look ⟨1, 0, [1, 2], [5, 0]⟩ = ⟨2, 0, [1, 2], [5, 0]⟩ by rfl]
  rintro e w8 ⟨rfl, h8, t8⟩
  have B8 := B7.trans (H7.out.tb B7.size t8)
  have H8 := Lib.hid h8
  clear H7 B7 h8 t8
  go_wp2_with fail
  refine (ep_look _ _ _ w8 H8.out (by decide) (by decide) (by decide)).mono ?_
  rw [show EpS.looked ⟨2, 0, [1, 2], [5, 0]⟩ = false by decide, show EpS.look ⟨2, 0, [1, 2], [5, 0]⟩ = ⟨2, 0, [1, 2], [5, 0]⟩ by rfl]
  rintro e w9 ⟨rfl, h9, t9⟩
  have B9 := B8.trans (H8.out.tb B8.size t9)
  have H9 := Lib.hid h9
  clear H8 B8 h9 t9
  go_wp2_with fail
  refine (ep_free _ _ _ w9 H9.out (by decide) (by decide)).mono ?_
  rintro e w10 ⟨⟨O2, n2, c2, rfl, o2⟩, h10, t10⟩
  rw [show outN [5, 0] ((2 : Nat) : Int) (EpS.k ⟨2, 0, [1, 2], [5, 0]⟩) = [5] by decide] at o2
  obtain ⟨_, rfl⟩ := own_rd o2
  have F9 := Lib.hid H9.out.lt
  replace h10 : EpAt w10 w.heap.size ⟨g, gw, B, d⟩ ⟨2, 0, [1, 2], []⟩ := h10
  have B10 := B9.trans (H9.out.tb B9.size t10)
  have H10 := Lib.hid h10
  have O10 := Lib.hid o2
  clear H9 B9 h10 t10 o2
  go_wp2_with fail
  refine (ep_unpin _ _ _ 0 w10 H10.out (by decide) (by decide)).mono ?_
  rintro e w11 ⟨rfl, h11, t11⟩
  replace h11 : EpAt w11 w.heap.size ⟨g, gw, B, d⟩ ⟨2, 0, [1, 0], []⟩ := h11
  have B11 := B10.trans (H10.out.tb B10.size t11)
  have H11 := Lib.hid h11
  have R11 := Lib.hid (own_rd (own_keep O10.out (fun k hk hl => t11.block k hl (fun q => by have := F9.out k q; omega)))).1
  clear H10 B10 h11 t11 O10 F9
  go_wp2_with fail
  obtain ⟨w12, hw12⟩ : ∃ x, w11.alloc (.cells #[.int .i64 5] 3) = x := ⟨_, rfl⟩
  have r12 := Rd.one w11 3 .i64 5
  have b12 : Below w11.heap.size w11 (w11.alloc (.cells #[.int .i64 5] 3)) := (Below.refl _ _).alloc (Nat.le_refl _) _
  rw [hw12] at r12 b12 ⊢
  refine (same_ints O2 (some ⟨w11.heap.size, 0, none⟩) 1 1 c2 1 w12.heap.size [5] [5] w12 ((R11.out.below b12).more b12.size) r12 (by decide) (by decide)).mono ?_
  rw [show sameB [5] [5] = true by decide]
  rintro e w13 ⟨rfl, q, rfl⟩
  have H13 := Lib.hid ((H11.out.below b12).drewN q)
  have B13 := below_drewN (B11.trans (b12.mono B11.size)) q
  obtain ⟨w14, hw14⟩ : ∃ x, w12.drewN q = x := ⟨_, rfl⟩
  rw [hw14] at H13 B13 ⊢
  clear H11 B11 R11 r12 b12 hw12 hw14
  go_wp2_with fail
  refine (ep_unpin_no _ _ _ 0 w14 H13.out (by decide) (by decide)).mono ?_
  rintro e w' ⟨rfl, rfl⟩
  go_wp2_with fail
  refine (ep_epoch _ _ _ w14 H13.out).mono ?_
  rintro e w' ⟨rfl, rfl⟩
  go_wp2_with fail
  refine (ep_limbo _ _ _ w14 H13.out (by decide)).mono ?_
  rintro e w15 ⟨⟨A3, c3, rfl, _⟩, b15⟩
  have B15 := B13.trans (b15.mono B13.size)
  clear H13 B13 b15
  go_wp2_with (first
    | (go_at_call 7; refine (ep_load_out none 0 _ (Or.inl rfl)).mono ?_; rintro e w' ⟨rfl, rfl⟩)
    | (go_at_call 8; refine (ep_pin_out none 0 _ (Or.inl rfl)).mono ?_; rintro e w' ⟨rfl, rfl⟩)
    | (go_at_call 11; refine (ep_look_nil _).mono ?_; rintro e w' ⟨rfl, rfl⟩))
  refine (ep_retire_nil 1 w15).mono ?_
  rintro e w16 ⟨rfl, b16⟩
  have B16 := B15.trans (b16.mono B15.size)
  clear B15 b16
  go_wp2_with fail
  refine (ep_free_nil w16).mono ?_
  rintro e w17 ⟨rfl, b17⟩
  have B17 := B16.trans (b17.mono B16.size)
  clear B16 b17
  go_wp2_with (first
    | (go_at_call 14; refine (ep_limbo_nil _).mono ?_; rintro e w' ⟨rfl, rfl⟩)
    | (go_at_call 17; refine (ep_epoch_nil _).mono ?_; rintro e w' ⟨rfl, rfl⟩)
    | (go_at_call 16; refine (ep_rec_out none 0 _ (Or.inl rfl)).mono ?_; rintro e w' ⟨rfl, rfl⟩))
  go_ret
  exact ⟨rfl, B17⟩
end Go.Proofs.Ytgcoecibhonfnaa
