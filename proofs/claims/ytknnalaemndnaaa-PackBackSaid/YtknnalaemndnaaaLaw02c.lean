/- Walk of the law PackNames. -/
import Derived.Test.YtknnalaemndnaaaLaw02b
namespace Go.Proofs.Ytknnalaemndnaaa
open Go.RowKit
set_option maxRecDepth 100000 in
set_option maxHeartbeats 1000000 in
theorem packNames_walk (v : Nat) (hv : v < 18446744073709551616) (s g a b : Int) (hs : -9223372036854775808 ≤ s ∧ s ≤ 9223372036854775807) (hg : -9223372036854775808 ≤ g ∧ g ≤ 9223372036854775807)
    (ha : -9223372036854775808 ≤ a ∧ a ≤ 9223372036854775807) (hb : -9223372036854775808 ≤ b ∧ b ≤ 9223372036854775807) (w : World) :
    Calls Try.prog 9 #[.int .u64 v, .agg #[.int .i64 s, .int .i64 g], .int .i64 a, .int .i64 b] w fun e w' => e = .returned (.bool true) ∧ Below w.heap.size w w' := by
  have c1 := fun w => pack_putref s g hs hg w
  have c2 := fun w => ref_putref s g w
  have c3 := fun w => pack_putring a b ha hb w
  have c4 := fun w => ref_putring a b w
  have c5 := fun w => pack_putent a b w
  have c6 := fun w => ref_putent a b w
  have d1 := fun w => pack_ref v hv w
  have d2 := fun w => ref_ref v hv w
  have d3 := fun w => pack_ring v hv w
  have d4 := fun w => ref_ring v hv w
  have d5 := fun w => pack_entry v hv w
  have d6 := fun w => ref_entry v hv w
  obtain ⟨p1, q1⟩ : ∃ x, (putRefE s g).1 = x := ⟨_, rfl⟩
  obtain ⟨p2, q2⟩ : ∃ x, (putRefE s g).2 = x := ⟨_, rfl⟩
  obtain ⟨p3, q3⟩ : ∃ x, (putRingE a b).1 = x := ⟨_, rfl⟩
  obtain ⟨p4, q4⟩ : ∃ x, (putRingE a b).2 = x := ⟨_, rfl⟩
  obtain ⟨p5, q5⟩ : ∃ x, (putEntE a b).1 = x := ⟨_, rfl⟩
  obtain ⟨p6, q6⟩ : ∃ x, (putEntE a b).2 = x := ⟨_, rfl⟩
  obtain ⟨r1, s1⟩ : ∃ x, (refE v).1.1 = x := ⟨_, rfl⟩
  obtain ⟨r2, s2⟩ : ∃ x, (refE v).1.2 = x := ⟨_, rfl⟩
  obtain ⟨r3, s3⟩ : ∃ x, (refE v).2 = x := ⟨_, rfl⟩
  obtain ⟨r4, s4⟩ : ∃ x, (ringE v).1.1 = x := ⟨_, rfl⟩
  obtain ⟨r5, s5⟩ : ∃ x, (ringE v).1.2 = x := ⟨_, rfl⟩
  obtain ⟨r6, s6⟩ : ∃ x, (ringE v).2 = x := ⟨_, rfl⟩
  obtain ⟨r7, s7⟩ : ∃ x, (entE v).1.1 = x := ⟨_, rfl⟩
  obtain ⟨r8, s8⟩ : ∃ x, (entE v).1.2 = x := ⟨_, rfl⟩
  obtain ⟨r9, s9⟩ : ∃ x, (entE v).2 = x := ⟨_, rfl⟩
  rw [q1, q2] at c1 c2
  rw [q3, q4] at c3 c4
  rw [q5, q6] at c5 c6
  rw [s1, s2, s3] at d1 d2
  rw [s4, s5, s6] at d3 d4
  rw [s7, s8, s9] at d5 d6
  clear q1 q2 q3 q4 q5 q6 s1 s2 s3 s4 s5 s6 s7 s8 s9 hs hg ha hb
  go_enter Try.func9, Try.ntmps9
  go_wp2_with fail
  have K0 := Blk.new w 67 #[.int .i64 s, .int .i64 g]
  have B0 : Below w.heap.size w (w.alloc (.cells #[.int .i64 s, .int .i64 g] 67)) := (Below.refl _ _).alloc (Nat.le_refl _) _
  obtain ⟨w0, hw0⟩ : ∃ w0, w.alloc (.cells #[.int .i64 s, .int .i64 g] 67) = w0 := ⟨_, rfl⟩
  rw [hw0] at K0 B0 ⊢
  have H0 := Lib.hid K0
  clear hw0 K0
  refine (c1 _).mono ?_
  rintro e w1 ⟨rfl, hb1⟩
  have B1 := B0.trans (hb1.mono B0.size)
  have H1 := Lib.hid (H0.out.below hb1 H0.out.lt)
  have x0 := H1.out.cell 0
  have x1 := H1.out.cell 1
  clear H0 hb1 B0
  go_wp2_with fail
  refine (c2 _).mono ?_
  rintro e w2 ⟨rfl, hb2⟩
  have B2 := B1.trans (hb2.mono B1.size)
  clear hb2 B1 x0 x1 H1
  go_wp2_with (first
    | (go_at_call 52; refine (c3 _).mono ?_; rintro e w' ⟨rfl, rfl⟩)
    | (go_at_call 53; refine (c4 _).mono ?_; rintro e w' ⟨rfl, rfl⟩)
    | (go_at_call 54; refine (c5 _).mono ?_; rintro e w' ⟨rfl, rfl⟩)
    | (go_at_call 55; refine (c6 _).mono ?_; rintro e w' ⟨rfl, rfl⟩))
  refine (d1 _).mono ?_
  rintro e w3 ⟨rfl, hb3⟩
  have B3 := B2.trans (hb3.mono B2.size)
  clear hb3 B2
  go_wp2_with fail
  have K3 := Blk.new w3 67 #[.int .i64 r1, .int .i64 r2]
  have C3 := B3.alloc B3.size (.cells #[.int .i64 r1, .int .i64 r2] 67)
  obtain ⟨w4, hw4⟩ : ∃ w4, w3.alloc (.cells #[.int .i64 r1, .int .i64 r2] 67) = w4 := ⟨_, rfl⟩
  rw [hw4] at K3 C3 ⊢
  have H3 := Lib.hid K3
  clear hw4 K3 B3
  refine (d2 _).mono ?_
  rintro e w5 ⟨rfl, hb5⟩
  have B5 := C3.trans (hb5.mono C3.size)
  have H5 := Lib.hid (H3.out.below hb5 H3.out.lt)
  clear hb5 C3 H3
  go_wp2_with fail
  have K5 := Blk.new w5 67 #[.int .i64 r1, .int .i64 r2]
  have C5 := B5.alloc B5.size (.cells #[.int .i64 r1, .int .i64 r2] 67)
  have L5 := H5.out.alloc (.cells #[.int .i64 r1, .int .i64 r2] 67)
  obtain ⟨w6, hw6⟩ : ∃ w6, w5.alloc (.cells #[.int .i64 r1, .int .i64 r2] 67) = w6 := ⟨_, rfl⟩
  rw [hw6] at K5 C5 L5 ⊢
  have H6 := Lib.hid K5
  have H7 := Lib.hid L5
  clear hw6 K5 L5 B5 H5
  go_wp2_with (first
    | (go_at_call 58; refine (d3 _).mono ?_; rintro e w' ⟨rfl, rfl⟩)
    | (go_at_call 59; refine (d4 _).mono ?_; rintro e w' ⟨rfl, rfl⟩)
    | (go_at_call 60; refine (d5 _).mono ?_; rintro e w' ⟨rfl, rfl⟩)
    | (go_at_call 61; refine (d6 _).mono ?_; rintro e w' ⟨rfl, rfl⟩))
  refine (lives02 _).mono ?_
  rintro e w7 ⟨rfl, hb7⟩
  have B7 := C5.trans (hb7.mono C5.size)
  have H8 := Lib.hid (H6.out.below hb7 H6.out.lt)
  have H9 := Lib.hid (H7.out.below hb7 H7.out.lt)
  have x0 := H8.out.cell 0
  have x1 := H8.out.cell 1
  have y0 := H9.out.cell 0
  have y1 := H9.out.cell 1
  clear H6 H7 hb7 C5
  go_wp2_with fail
  go_ret
  exact ⟨rfl, B7⟩
theorem packNames_any (v : Int) (hv : Word v) (s g a b : Int) (hs : -9223372036854775808 ≤ s ∧ s ≤ 9223372036854775807) (hg : -9223372036854775808 ≤ g ∧ g ≤ 9223372036854775807)
    (ha : -9223372036854775808 ≤ a ∧ a ≤ 9223372036854775807) (hb : -9223372036854775808 ≤ b ∧ b ≤ 9223372036854775807) (w : World) :
    Calls Try.prog 9 #[.int .u64 v, .agg #[.int .i64 s, .int .i64 g], .int .i64 a, .int .i64 b] w fun e w' => e = .returned (.bool true) ∧ Below w.heap.size w w' := by
  obtain ⟨k, rfl, hk⟩ := word_nat hv
  exact packNames_walk k hk s g a b hs hg ha hb w
end Go.Proofs.Ytknnalaemndnaaa
