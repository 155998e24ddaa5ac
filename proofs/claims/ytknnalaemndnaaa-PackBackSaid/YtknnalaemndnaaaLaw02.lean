/- Walks of the laws of pack: what the document gives. -/
import Derived.Test.YtknnalaemndnaaaPackR
import Derived.Test.YtknnalaemndnaaaSameW
namespace Go.Proofs.Ytknnalaemndnaaa
open Go.RowKit
theorem Rd.two (w : World) (t : Nat) (kd : IntKind) (a b : Int) : Rd (w.alloc (.cells #[.int kd a, .int kd b] t)) (w.alloc (.cells #[.int kd a, .int kd b] t)).heap.size (some ⟨w.heap.size, 0, none⟩) 2 ([a, b].map (.int kd)) :=
  IB.rd (g := w.heap.size) (t := t) (cs := [a, b]) ⟨[], heap_alloc_new w _⟩
theorem lit_f1 {w : World} {e : Ending} {w' : World} (h : RetF [4, 8] (fieldsF 4660 [4, 8]) w e w') :
    (∃ A c, e = .returned (.tuple #[.slice A 2 c, .int .i64 0]) ∧ Rd w' w'.heap.size A 2 ([(4 : Int), 35].map (.int .u64))) ∧ Below w.heap.size w w' := by
  have e1 : wideF [4, 8] 64 = true := by decide
  have e2 : fieldsF 4660 [4, 8] = [4, 35] := by decide
  unfold RetF at h
  rw [e1, e2] at h
  exact h
theorem lit_f2 {w : World} {e : Ending} {w' : World} (h : RetF [60, 5] (fieldsF 1 [60, 5]) w e w') :
    (∃ A c, e = .returned (.tuple #[.slice A 0 c, .int .i64 6])) ∧ Below w.heap.size w w' := by
  have e1 : wideF [60, 5] 64 = false := by decide
  unfold RetF at h
  rw [e1] at h
  obtain ⟨⟨A, c, h1, _⟩, h2⟩ := h
  exact ⟨⟨A, c, h1⟩, h2⟩
/-- Two lists written at the call: their join. -/
theorem join_two (a b x y : Int) (ha : Word a) (hb : Word b) (w : World) :
    Calls Try.prog 43 #[.slice (some ⟨w.heap.size, 0, none⟩) 2 2, .slice (some ⟨w.heap.size + 1, 0, none⟩) 2 2] ((w.alloc (.cells #[.int .u64 a, .int .u64 b] 22)).alloc (.cells #[.int .i64 x, .int .i64 y] 3))
      fun e w' => e = .returned (.tuple #[.int .u64 (joinE [a, b] [x, y]).1, .int .i64 (joinE [a, b] [x, y]).2]) ∧ Below w.heap.size w w' := by
  obtain ⟨W, hW⟩ : ∃ W, w.alloc (.cells #[.int .u64 a, .int .u64 b] 22) = W := ⟨_, rfl⟩
  have r1 := Rd.two w 22 .u64 a b
  have hs : W.heap.size = w.heap.size + 1 := by rw [← hW]; simp
  have b1 : Below w.heap.size w W := by rw [← hW]; exact (Below.refl _ _).alloc (Nat.le_refl _) _
  rw [hW] at r1 ⊢
  have r2 := Rd.two W 3 .i64 x y
  have b2 : Below W.heap.size W (W.alloc (.cells #[.int .i64 x, .int .i64 y] 3)) := (Below.refl _ _).alloc (Nat.le_refl _) _
  have r3 := (r1.below b2).more b2.size
  rw [hs] at r2
  refine (pack_join (some ⟨w.heap.size, 0, none⟩) 2 2 [a, b] (by simp; exact ⟨ha, hb⟩) (some ⟨w.heap.size + 1, 0, none⟩) 2 2 [x, y] _ r3 r2 (by decide) (by decide)).mono ?_
  rintro e w' ⟨rfl, q, rfl⟩
  exact ⟨rfl, below_drewN (b1.trans (b2.mono b1.size)) q⟩
set_option maxRecDepth 100000 in
set_option maxHeartbeats 1000000 in
theorem lives02 (w : World) : Calls Try.prog 40 #[] w fun e w' => e = .returned (.bool true) ∧ Below w.heap.size w w' := by
  go_enter Try.func40, Try.ntmps40
  go_wp2_with fail
  refine (pack_fields 4660 (by decide) _ 2 2 [4, 8] _ (Rd.two w _ _ _ _) (by decide)).mono ?_
  intro e w1 hret
  obtain ⟨⟨A1, c1, rfl, hl⟩, hb1⟩ := lit_f1 hret
  have B1 : Below w.heap.size w w1 := ((Below.refl _ _).alloc (Nat.le_refl _) _).trans (hb1.mono (by simp))
  clear hret hb1
  go_wp2_with fail
  refine (pack_fields 1 (by decide) _ 2 2 [60, 5] _ (Rd.two w1 _ _ _ _) (by decide)).mono ?_
  intro e w2 hret
  obtain ⟨⟨A2, c2, rfl⟩, hb2⟩ := lit_f2 hret
  have C2 : Below w1.heap.size w1 w2 := ((Below.refl _ _).alloc (Nat.le_refl _) _).trans (hb2.mono (by simp))
  clear hret hb2
  go_wp2_with fail
  refine (join_two 4 35 4 8 ⟨by decide, by decide⟩ ⟨by decide, by decide⟩ w2).mono ?_
  rw [show joinE [4, 35] [4, 8] = (564, 0) by decide]
  rintro e w3 ⟨rfl, hb3⟩
  have C3 := C2.trans (hb3.mono C2.size)
  clear hb3
  go_wp2_with fail
  refine (join_two 16 0 4 8 ⟨by decide, by decide⟩ ⟨by decide, by decide⟩ w3).mono ?_
  rw [show joinE [16, 0] [4, 8] = (0, 6) by decide]
  rintro e w4 ⟨rfl, hb4⟩
  have C4 := C3.trans (hb4.mono C3.size)
  clear hb4 C2 C3
  go_wp2_with fail
  refine (pack_putring (-1) 0 (by decide) (by decide) _).mono ?_
  rw [show putRingE (-1) 0 = (8192, 0) by decide]
  rintro e w' ⟨rfl, rfl⟩
  go_wp2_with fail
  refine (pack_ring 8192 (by decide) _).mono ?_
  rw [show ringE 8192 = ((-1, 0), 0) by decide]
  rintro e w' ⟨rfl, rfl⟩
  go_wp2_with fail
  refine (pack_putref 5 2 (by decide) (by decide) _).mono ?_
  rw [show putRefE 5 2 = (16389, 0) by decide]
  rintro e w5 ⟨rfl, hb5⟩
  have C5 := C4.trans (hb5.mono C4.size)
  clear hb5 C4
  go_wp2_with fail
  refine (pack_ref 16389 (by decide) _).mono ?_
  rw [show refE 16389 = ((5, 2), 0) by decide]
  rintro e w6 ⟨rfl, hb6⟩
  have C6 := C5.trans (hb6.mono C5.size)
  clear hb6 C5
  go_wp2_with fail
  have K7 := Blk.new w6 67 #[.int .i64 5, .int .i64 2]
  have C7 := C6.alloc C6.size (.cells #[.int .i64 5, .int .i64 2] 67)
  obtain ⟨w7, hw7⟩ : ∃ w7, w6.alloc (.cells #[.int .i64 5, .int .i64 2] 67) = w7 := ⟨_, rfl⟩
  rw [hw7] at K7 C7 ⊢
  have H7 := Lib.hid K7
  clear hw7 C6 K7
  refine (pack_putent 3 7 _).mono ?_
  rw [show putEntE 3 7 = (57347, 0) by decide]
  rintro e w' ⟨rfl, rfl⟩
  go_wp2_with fail
  refine (pack_entry 57347 (by decide) _).mono ?_
  rw [show entE 57347 = ((3, 7), 0) by decide]
  rintro e w' ⟨rfl, rfl⟩
  go_wp2_with fail
  refine (pack_putent 3 8 _).mono ?_
  rw [show putEntE 3 8 = (0, 6) by decide]
  rintro e w' ⟨rfl, rfl⟩
  go_wp2_with fail
  have C9 : Below w1.heap.size w1 (w7.alloc (.cells #[.int .u64 4, .int .u64 35] 22)) := C7.alloc C7.size _
  have r9 := Rd.two w7 22 .u64 4 35
  have l9 := (hl.below C9).more C9.size
  have K9 := H7.out.alloc (.cells #[.int .u64 4, .int .u64 35] 22)
  obtain ⟨w8, hw8⟩ : ∃ w8, w7.alloc (.cells #[.int .u64 4, .int .u64 35] 22) = w8 := ⟨_, rfl⟩
  rw [hw8] at C9 r9 l9 K9 ⊢
  clear hw8 hl C7 H7
  refine (same_words A1 (some ⟨w7.heap.size, 0, none⟩) 2 2 c1 2 _ [4, 35] [4, 35] _ l9 r9 (by decide) (by decide)).mono ?_
  rw [show sameB [4, 35] [4, 35] = true by decide]
  rintro e w9 ⟨rfl, q, hw9⟩
  have F9 := Lib.hid (K9.drewN q)
  have B9 := below_drewN (B1.trans (C9.mono B1.size)) q
  rw [← hw9] at F9 B9
  clear hw9 K9 l9 r9 C9 B1
  have x0 := F9.out.cell 0
  have x1 := F9.out.cell 1
  go_wp2_with (first
    | (go_at_call 48; refine (pack_zag 3 (by decide) _).mono ?_; rw [show zagF 3 = -2 by decide]; rintro e w' ⟨rfl, rfl⟩)
    | (go_at_call 46; (with_reducible refine (pack_zig (-1) (by decide) (by decide) _).mono ?_); rw [show zigF (-1) = 1 by decide]; rintro e w' ⟨rfl, rfl⟩)
    | (go_at_call 46; (with_reducible refine (pack_zig 3 (by decide) (by decide) _).mono ?_); rw [show zigF 3 = 6 by decide]; rintro e w' ⟨rfl, rfl⟩))
  go_ret
  exact ⟨rfl, B9⟩
end Go.Proofs.Ytknnalaemndnaaa
