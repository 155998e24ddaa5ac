/- Getter: the answers that the document gives, walked. -/
import Derived.Test.YtkhnnjeinpojkaaGtB
namespace Go.Proofs.Ytkhnnjeinpojkaa
open Go.RowKit
theorem at_new {w : World} {T : Nat} {c : Tk} (h : TaskAt w T c ts0) : At w T c as0 := ⟨.slice none 0 0, h, VV.nil_ w, NotAt.nil_ _ _ _⟩
theorem ox_y1 : opX y1 = #[.int .i64 1, .int .i64 0, .int .i64 0, .int .i64 0, .int .i64 0, .int .u64 0, .slice none 0 0, .int .u64 0, .slice none 0 0, .int .u64 0] := rfl
theorem bx_y1 : isB y1 = true := rfl
theorem ox_y2 : opX y2 = #[.int .i64 18, .int .i64 0, .int .i64 0, .int .i64 0, .int .i64 0, .int .u64 0, .slice none 0 0, .int .u64 0, .slice none 0 0, .int .u64 0] := rfl
theorem bx_y2 : isB y2 = true := rfl
theorem ox_y3 : opX y3 = #[.int .i64 0, .int .i64 0, .int .i64 0, .int .i64 0, .int .i64 0, .int .u64 0, .slice none 0 0, .int .u64 0, .slice none 0 0, .int .u64 0] := rfl
theorem bx_y3 : isB y3 = false := rfl
theorem ox_z2 : opX z2 = #[.int .i64 3, .int .i64 0, .int .i64 0, .int .i64 0, .int .i64 0, .int .u64 0, .slice none 0 0, .int .u64 0, .slice none 0 0, .int .u64 0] := rfl
theorem bx_z2 : isB z2 = true := rfl
theorem ox_z3 : opX z3 = #[.int .i64 6, .int .i64 0, .int .i64 0, .int .i64 8, .int .i64 0, .int .u64 0, .slice none 0 0, .int .u64 0, .slice none 0 0, .int .u64 0] := rfl
theorem bx_z3 : isB z3 = true := rfl
theorem ox_z4 : opX z4 = #[.int .i64 15, .int .i64 0, .int .i64 0, .int .i64 0, .int .i64 0, .int .u64 4, .slice none 0 0, .int .u64 0, .slice none 0 0, .int .u64 0] := rfl
theorem bx_z4 : isB z4 = true := rfl
theorem ox_z5 : opX z5 = #[.int .i64 6, .int .i64 0, .int .i64 0, .int .i64 0, .int .i64 0, .int .u64 0, .slice none 0 0, .int .u64 0, .slice none 0 0, .int .u64 0] := rfl
theorem bx_z5 : isB z5 = true := rfl
theorem ox_z6 : opX z6 = #[.int .i64 0, .int .i64 0, .int .i64 0, .int .i64 0, .int .i64 0, .int .u64 0, .slice none 0 0, .int .u64 0, .slice none 0 0, .int .u64 0] := rfl
theorem bx_z6 : isB z6 = false := rfl
theorem y1_ok : y1.Ok := step_ok (lc1 nilV) [] as0 as0_ok true 0 0 [] 0
theorem y2_ok : y2.Ok := step_ok (lc1 nilV) [] y1 y1_ok false 0 0 [] 0
theorem y3_ok : y3.Ok := step_ok (lc1 nilV) [] y2 y2_ok true 3 0 [] 0
theorem z2_ok : z2.Ok := step_ok (lc2 nilV) [] y1 y1_ok false 0 0 [] 0
theorem z3_ok : z3.Ok := step_ok (lc2 nilV) [] z2 z2_ok true 7 0 [] 0
theorem z4_ok : z4.Ok := step_ok (lc2 nilV) [] z3 z3_ok true 0 0 [] 0
theorem z5_ok : z5.Ok := step_ok (lc2 nilV) [] z4 z4_ok false 0 0 [] 0
set_option maxRecDepth 100000 in
set_option maxHeartbeats 4000000 in
theorem lives28 (w : World) : Calls Try.prog 11 #[] w fun e w' => e = .returned (.bool true) ∧ Below w.heap.size w w' := by
  have HN1 := Lib.hid (gt_new 5 0 0 0 0 0 1 (.slice none 0 0) [] w (VV.nil_ w))
  go_enter Try.func11, Try.ntmps11
  go_wp2_with fail
  refine HN1.out.mono ?_
  rintro e W1 ⟨⟨T, V1, rfl, hT, kT, v1, _⟩, b1⟩
  have HN2 := Lib.hid (gt_new 3 4 0 0 0 0 1 (.slice none 0 0) [] W1 (VV.nil_ W1))
  have KT := Lib.hid kT
  have KV := Lib.hid v1
  have KB := Lib.hid b1
  have HT := Lib.hid hT
  clear HN1 kT v1 b1 hT
  go_wp2_with fail
  refine HN2.out.mono ?_
  rintro e W2 ⟨⟨U, V2, rfl, hU, kU, v2, _⟩, b2⟩
  have HP : Hid (P28 w W2 T U (lc1 V1) (lc2 V2) as0 as0 []) :=
    ⟨(at_new KT.out).below b2, at_new kU, (by have := Blk.lt KT.out; omega), KV.out.below b2, v2, HT.out, (by have := KB.out.size; omega), KB.out.trans (b2.mono KB.out.size), by simp⟩
  clear KT KV KB HT HN2 kU v2 b2 hU

  go_wp2_with fail
  refine (gt_next T (lc1 V1) [] as0 true 0 0 (.slice none 0 0) 0 (.slice none 0 0) [] 0 W2 as0_ok HP.out.t HP.out.v1 (VV.nil_ _) (NotAt.nil_ _ _ _)).mono ?_
  rintro e W3 ⟨rfl, ha, ht⟩
  rw [s1] at ha ⊢
  rw [bx_y1]
  replace HP := Lib.hid (HP.out.tells ha ht)
  have S3 := op_put W3 y1
  obtain ⟨X3, hX3⟩ : ∃ x, (W3.alloc (.cells opZ 44)).setCells W3.heap.size 0 (opX y1).toList = x := ⟨_, rfl⟩
  rw [hX3] at HP S3
  unfold opZ at S3
  clear ha ht hX3
  go_upto_region 5 with (refine wpList_storeE S3 _ _ rfl rfl rfl rfl ?_)
  clear S3
  go_wp2_with fail
  refine (gt_next T (lc1 V1) [] y1 false 0 0 (.slice none 0 0) 0 (.slice none 0 0) [] 0 X3 y1_ok HP.out.t HP.out.v1 (VV.nil_ _) (NotAt.nil_ _ _ _)).mono ?_
  rintro e W4 ⟨rfl, ha, ht⟩
  rw [s2] at ha ⊢
  rw [bx_y2]
  replace HP := Lib.hid (HP.out.tells ha ht)
  have S4 := op_put W4 y2
  obtain ⟨X4, hX4⟩ : ∃ x, (W4.alloc (.cells opZ 44)).setCells W4.heap.size 0 (opX y2).toList = x := ⟨_, rfl⟩
  rw [hX4] at HP S4
  unfold opZ at S4
  clear ha ht hX4
  go_upto_region 6 with (refine wpList_storeE S4 _ _ rfl rfl rfl rfl ?_)
  clear S4
  go_wp2_with fail
  refine (gt_next T (lc1 V1) [] y2 true 3 0 (.slice none 0 0) 0 (.slice none 0 0) [] 0 X4 y2_ok HP.out.t HP.out.v1 (VV.nil_ _) (NotAt.nil_ _ _ _)).mono ?_
  rintro e W5 ⟨rfl, ha, ht⟩
  rw [s3] at ha ⊢
  rw [bx_y3]
  replace HP := Lib.hid (HP.out.tells ha ht)
  have S5 := op_put W5 y3
  obtain ⟨X5, hX5⟩ : ∃ x, (W5.alloc (.cells opZ 44)).setCells W5.heap.size 0 (opX y3).toList = x := ⟨_, rfl⟩
  rw [hX5] at HP S5
  unfold opZ at S5
  clear ha ht hX5
  go_upto_region 7 with (refine wpList_storeE S5 _ _ rfl rfl rfl rfl ?_)
  clear S5
  go_wp2_with fail
  refine (gt_next T (lc1 V1) [] y3 false 0 0 (.slice none 0 0) 0 (.slice none 0 0) [] 0 X5 y3_ok HP.out.t HP.out.v1 (VV.nil_ _) (NotAt.nil_ _ _ _)).mono ?_
  rintro e W6 ⟨rfl, ha, ht⟩
  rw [s4] at ha ⊢
  rw [bx_y3]
  replace HP := Lib.hid (HP.out.tells ha ht)
  have S6 := op_put W6 y3
  obtain ⟨X6, hX6⟩ : ∃ x, (W6.alloc (.cells opZ 44)).setCells W6.heap.size 0 (opX y3).toList = x := ⟨_, rfl⟩
  rw [hX6] at HP S6
  unfold opZ at S6
  clear ha ht hX6
  go_upto_region 8 with (refine wpList_storeE S6 _ _ rfl rfl rfl rfl ?_)
  clear S6
  go_wp2_with fail
  refine (gt_next U (lc2 V2) [] as0 false 0 0 (.slice none 0 0) 0 (.slice none 0 0) [] 0 X6 as0_ok HP.out.u HP.out.v2 (VV.nil_ _) (NotAt.nil_ _ _ _)).mono ?_
  rintro e W7 ⟨rfl, ha, ht⟩
  rw [r1] at ha ⊢
  rw [bx_y1]
  replace HP := Lib.hid (HP.out.silent ha ht)
  clear ha ht
  go_wp2_with fail
  refine (gt_next U (lc2 V2) [] y1 false 0 0 (.slice none 0 0) 0 (.slice none 0 0) [] 0 W7 y1_ok HP.out.u HP.out.v2 (VV.nil_ _) (NotAt.nil_ _ _ _)).mono ?_
  rintro e W8 ⟨rfl, ha, ht⟩
  rw [r2] at ha ⊢
  rw [bx_z2]
  replace HP := Lib.hid (HP.out.tellsU ha ht)
  have S8 := op_put W8 z2
  obtain ⟨X8, hX8⟩ : ∃ x, (W8.alloc (.cells opZ 44)).setCells W8.heap.size 0 (opX z2).toList = x := ⟨_, rfl⟩
  rw [hX8] at HP S8
  unfold opZ at S8
  clear ha ht hX8
  go_upto_region 10 with (refine wpList_storeE S8 _ _ rfl rfl rfl rfl ?_)
  clear S8
  go_wp2_with fail
  refine (gt_next U (lc2 V2) [] z2 true 7 0 (.slice none 0 0) 0 (.slice none 0 0) [] 0 X8 z2_ok HP.out.u HP.out.v2 (VV.nil_ _) (NotAt.nil_ _ _ _)).mono ?_
  rintro e W9 ⟨rfl, ha, ht⟩
  rw [r3] at ha ⊢
  rw [bx_z3]
  replace HP := Lib.hid (HP.out.tellsU ha ht)
  have S9 := op_put W9 z3
  obtain ⟨X9, hX9⟩ : ∃ x, (W9.alloc (.cells opZ 44)).setCells W9.heap.size 0 (opX z3).toList = x := ⟨_, rfl⟩
  rw [hX9] at HP S9
  unfold opZ at S9
  clear ha ht hX9
  go_upto_region 11 with (refine wpList_storeE S9 _ _ rfl rfl rfl rfl ?_)
  clear S9
  go_wp2_with fail
  refine (gt_next U (lc2 V2) [] z3 true 0 0 (.slice none 0 0) 0 (.slice none 0 0) [] 0 X9 z3_ok HP.out.u HP.out.v2 (VV.nil_ _) (NotAt.nil_ _ _ _)).mono ?_
  rintro e W10 ⟨rfl, ha, ht⟩
  rw [r4] at ha ⊢
  rw [bx_z4]
  replace HP := Lib.hid (HP.out.tellsU ha ht)
  have S10 := op_put W10 z4
  obtain ⟨X10, hX10⟩ : ∃ x, (W10.alloc (.cells opZ 44)).setCells W10.heap.size 0 (opX z4).toList = x := ⟨_, rfl⟩
  rw [hX10] at HP S10
  unfold opZ at S10
  clear ha ht hX10
  go_upto_region 12 with (refine wpList_storeE S10 _ _ rfl rfl rfl rfl ?_)
  clear S10
  go_wp2_with fail
  refine (gt_next U (lc2 V2) [] z4 false 0 0 (.slice none 0 0) 0 (.slice none 0 0) [] 0 X10 z4_ok HP.out.u HP.out.v2 (VV.nil_ _) (NotAt.nil_ _ _ _)).mono ?_
  rintro e W11 ⟨rfl, ha, ht⟩
  rw [r5] at ha ⊢
  rw [bx_z5]
  replace HP := Lib.hid (HP.out.tellsU ha ht)
  have S11 := op_put W11 z5
  obtain ⟨X11, hX11⟩ : ∃ x, (W11.alloc (.cells opZ 44)).setCells W11.heap.size 0 (opX z5).toList = x := ⟨_, rfl⟩
  rw [hX11] at HP S11
  unfold opZ at S11
  clear ha ht hX11
  go_upto_region 13 with (refine wpList_storeE S11 _ _ rfl rfl rfl rfl ?_)
  clear S11
  go_wp2_with fail
  refine (gt_next U (lc2 V2) [] z5 false 0 0 (.slice none 0 0) 0 (.slice none 0 0) [] 0 X11 z5_ok HP.out.u HP.out.v2 (VV.nil_ _) (NotAt.nil_ _ _ _)).mono ?_
  rintro e W12 ⟨rfl, ha, ht⟩
  rw [r6] at ha ⊢
  rw [bx_z6]
  replace HP := Lib.hid (HP.out.tellsU ha ht)
  have S12 := op_put W12 z6
  obtain ⟨X12, hX12⟩ : ∃ x, (W12.alloc (.cells opZ 44)).setCells W12.heap.size 0 (opX z6).toList = x := ⟨_, rfl⟩
  rw [hX12] at HP S12
  unfold opZ at S12
  clear ha ht hX12
  go_upto_region 14 with (refine wpList_storeE S12 _ _ rfl rfl rfl rfl ?_)
  clear S12
  go_wp2_with fail
  refine (next_nil false 0 0 (.slice none 0 0) 0 (.slice none 0 0) 0 X12).mono ?_
  rintro e W13 ⟨rfl, b13⟩
  replace HP := Lib.hid ((HP.out.below b13).below (op_bel W13 as0))
  have S13 := op_put W13 as0
  obtain ⟨X13, hX13⟩ : ∃ x, (W13.alloc (.cells opZ 44)).setCells W13.heap.size 0 (opX as0).toList = x := ⟨_, rfl⟩
  rw [hX13] at HP S13
  unfold opZ at S13
  clear b13 hX13
  have c3 : X13.cell? ⟨W3.heap.size, 0, none⟩ = some (.int .i64 1) := (HP.out.ops (W3.heap.size, y1) (by simp)).2.2.cell 0
  have c4 : X13.cell? ⟨W4.heap.size, 0, none⟩ = some (.int .i64 18) := (HP.out.ops (W4.heap.size, y2) (by simp)).2.2.cell 0
  go_wp2_with (refine wpList_storeE S13 _ _ rfl rfl rfl rfl ?_)
  obtain ⟨TV, kT, vT, nT⟩ := HP.out.t
  obtain ⟨A1, n1, p1, e1⟩ : ∃ A n p, V1 = .slice A n p := HP.out.v1.slice
  obtain ⟨A2, n2, p2, e2⟩ := vT.slice
  subst e1 e2
  refine (gt_marks T (lc1 (.slice A1 n1 p1)) (tsOf y3 (.slice A2 n2 p2)) _ kT).mono ?_
  rintro e W ⟨rfl, rfl⟩
  rw [show ((tsOf y3 (.slice A2 n2 p2)).marks : Int) = 1 from rfl]
  have HKT := Lib.hid kT
  clear kT vT nT
  go_wp2_with fail
  refine (gt_told T (lc1 (.slice A1 n1 p1)) (tsOf y3 (.slice A2 n2 p2)) _ HKT.out rfl rfl).mono ?_
  rintro e W14 ⟨rfl, b14⟩
  replace HP := Lib.hid (HP.out.below b14)
  rw [show toldA (lc1 (.slice A1 n1 p1)) (tsOf y3 (.slice A2 n2 p2)) = #[.int .i64 0, .int .i64 5, .int .u64 0, .slice A1 n1 p1, .int .u64 0, .int .i64 0, .int .i64 0, .int .u64 0, .int .i64 0, .int .u64 0, .slice A2 n2 p2, .int .u64 0, .slice none 0 0, .int .i64 3, .int .i64 0, .slice none 0 0, .int .i64 0] from rfl]
  have fl1 : ∀ w, (Instr.field 37 (.agg #[.int .i64 0, .int .i64 5, .int .u64 0, .slice A1 n1 p1, .int .u64 0, .int .i64 0, .int .i64 0, .int .u64 0, .int .i64 0, .int .u64 0, .slice A2 n2 p2, .int .u64 0, .slice none 0 0, .int .i64 3, .int .i64 0, .slice none 0 0, .int .i64 0]) 5).run Try.prog w = .ok (.int .i64 3) w := fun _ => by kernel_rfl
  clear b14 HKT c3 c4 S13
  have d1 : W14.cell? ⟨W8.heap.size, 0, none⟩ = some (.int .i64 3) := (HP.out.ops (W8.heap.size, z2) (by simp)).2.2.cell 0
  have d2 : W14.cell? ⟨W9.heap.size, 0, none⟩ = some (.int .i64 6) := (HP.out.ops (W9.heap.size, z3) (by simp)).2.2.cell 0
  have d3 : W14.cell? ⟨W9.heap.size, 3, none⟩ = some (.int .i64 8) := (HP.out.ops (W9.heap.size, z3) (by simp)).2.2.cell 3
  have d4 : W14.cell? ⟨W10.heap.size, 0, none⟩ = some (.int .i64 15) := (HP.out.ops (W10.heap.size, z4) (by simp)).2.2.cell 0
  have d5 : W14.cell? ⟨W10.heap.size, 5, none⟩ = some (.int .u64 4) := (HP.out.ops (W10.heap.size, z4) (by simp)).2.2.cell 5
  have d6 : W14.cell? ⟨W11.heap.size, 0, none⟩ = some (.int .i64 6) := (HP.out.ops (W11.heap.size, z5) (by simp)).2.2.cell 0
  have d7 : W14.cell? ⟨W11.heap.size, 3, none⟩ = some (.int .i64 0) := (HP.out.ops (W11.heap.size, z5) (by simp)).2.2.cell 3
  go_wp2_with fail
  obtain ⟨TU, kU, vU, nU⟩ := HP.out.u
  obtain ⟨B1, m1, q1, e1⟩ : ∃ A n p, V2 = .slice A n p := HP.out.v2.slice
  obtain ⟨B2, m2, q2, e2⟩ := vU.slice
  subst e1 e2
  refine (gt_told U (lc2 (.slice B1 m1 q1)) (tsOf z6 (.slice B2 m2 q2)) _ kU rfl rfl).mono ?_
  rintro e W15 ⟨rfl, b15⟩
  replace HP := Lib.hid (HP.out.below b15)
  rw [show toldA (lc2 (.slice B1 m1 q1)) (tsOf z6 (.slice B2 m2 q2)) = #[.int .i64 0, .int .i64 3, .int .u64 4, .slice B1 m1 q1, .int .u64 0, .int .i64 0, .int .i64 0, .int .u64 0, .int .i64 3, .int .u64 0, .slice B2 m2 q2, .int .u64 0, .slice none 0 0, .int .i64 0, .int .i64 0, .slice none 0 0, .int .i64 0] from rfl]
  have fl2 : ∀ w, (Instr.field 37 (.agg #[.int .i64 0, .int .i64 3, .int .u64 4, .slice B1 m1 q1, .int .u64 0, .int .i64 0, .int .i64 0, .int .u64 0, .int .i64 3, .int .u64 0, .slice B2 m2 q2, .int .u64 0, .slice none 0 0, .int .i64 0, .int .i64 0, .slice none 0 0, .int .i64 0]) 2).run Try.prog w = .ok (.int .i64 3) w := fun _ => by kernel_rfl
  clear b15 kU vU nU
  have HM := Lib.hid (marks_nil W15)
  go_wp2_with fail
  refine HM.out.mono ?_
  rintro e W ⟨rfl, rfl⟩
  go_wp2_with fail
  go_ret
  exact ⟨rfl, HP.out.b⟩
end Go.Proofs.Ytkhnnjeinpojkaa
