/- Getter: what is compared: tellings, operations. -/
import Derived.Test.YtkhnnjeinpojkaaGtX
namespace Go.Proofs.Ytkhnnjeinpojkaa
open Go.RowKit
theorem toldT : (Try.prog.info? 37).map (·.size) = some 17 := by kernel_rfl
theorem itemT : (Try.prog.info? 25).map (·.size) = some 3 := by kernel_rfl
theorem tl_call {w : World} {g t : Nat} {c : Tk} {s : Ts} (h : Blk w g t (toldA c s)) : (Instr.loadAt 27 (.pointer (some ⟨g, 1, none⟩))).run Try.prog w = .ok (.agg (callL c.k c.id c.V c.tags c.kk c.ef c.dr)) w :=
  row_load_mid h 1 (callL c.k c.id c.V c.tags c.kk c.ef c.dr) rfl Try.underlying27 rfl callT
theorem tl_item {w : World} {g t : Nat} {c : Tk} {s : Ts} (h : Blk w g t (toldA c s)) : (Instr.loadAt 25 (.pointer (some ⟨g, 9, none⟩))).run Try.prog w = .ok (.agg (itemL s.tid s.TV s.ttags)) w :=
  row_load_mid h 9 (itemL s.tid s.TV s.ttags) rfl Try.underlying25 rfl itemT
theorem tl_load {w : World} {g t : Nat} {c : Tk} {s : Ts} (h : Blk w g t (toldA c s)) : (Instr.loadAt 37 (.pointer (some ⟨g, 0, none⟩))).run Try.prog w = .ok (.agg (toldA c s)) w :=
  row_load h Try.underlying37 rfl toldT
theorem two_new {w w1 : World} {a b : Array Value} {t : Nat} (hw1 : (w.alloc (.cells a t)).alloc (.cells b t) = w1) : Blk w1 w.heap.size t a ∧ Blk w1 (w.heap.size + 1) t b ∧ Below w.heap.size w w1 := by
  have s1 : (w.alloc (.cells a t)).heap.size = w.heap.size + 1 := by simp only [World.alloc, Array.size_push]
  refine ⟨?_, ?_, ?_⟩
  · rw [← hw1]; exact (Blk.new _ _ _).alloc _
  · rw [← hw1, ← s1]; exact Blk.new _ _ _
  · rw [← hw1]; exact ((Below.refl _ w).alloc (Nat.le_refl _) _).alloc (by rw [s1]; omega) _
set_option maxRecDepth 100000 in
set_option maxHeartbeats 1000000 in
theorem same_end {w : World} (c : Tk) (s : Ts) (V2 TV2 : Value) {cv vec : List Int} (h : VV w c.V cv) (h' : VV w V2 cv) (ht : VV w s.TV vec) (ht' : VV w TV2 vec) :
    Calls Try.prog 68 #[.agg (toldA c s), .agg (toldA { c with V := V2 } { s with TV := TV2 })] w fun e w' => e = .returned (.bool true) ∧ Below w.heap.size w w' := by
  obtain ⟨w1, hw1⟩ : ∃ x, (w.alloc (.cells (toldA c s) 37)).alloc (.cells (toldA { c with V := V2 } { s with TV := TV2 }) 37) = x := ⟨_, rfl⟩
  obtain ⟨D1, E1, b1⟩ := two_new hw1
  have LD := tl_call D1
  have LE := tl_call E1
  have HC := Lib.hid (same_call c.k c.id c.tags c.kk c.ef c.dr (h.below b1) (h'.below b1))
  have HB := Lib.hid b1
  have HD := Lib.hid D1
  have HE := Lib.hid E1
  have HT := Lib.hid ht
  have HT' := Lib.hid ht'
  clear b1 D1 E1 h h' ht ht'
  go_enter Try.func68, Try.ntmps68
  go_upto_region 1 with fail
  (try rw [hw1])
  clear hw1
  go_wp2_with (first | refine wpList_loadE LD _ rfl rfl rfl ?_ | refine wpList_loadE LE _ rfl rfl rfl ?_ | refine wpList_loadG LD _ rfl rfl rfl ?_ | refine wpList_loadG LE _ rfl rfl rfl ?_)
  refine HC.out.mono ?_
  rintro e w2 ⟨rfl, b2⟩
  have D2 := Blk.below HD.out b2 HD.out.lt
  have E2 := Blk.below HE.out b2 HE.out.lt
  have B2 := HB.out.trans (b2.mono HB.out.size)
  have LD2 := tl_item D2
  have LE2 := tl_item E2
  have d8 : w2.cell? ⟨w.heap.size, 8, none⟩ = some (.int .i64 s.err) := D2.cell 8
  have e8 : w2.cell? ⟨w.heap.size + 1, 8, none⟩ = some (.int .i64 s.err) := E2.cell 8
  have HI := Lib.hid (same_item s.tid s.ttags (HT.out.below B2) (HT'.out.below B2))
  have HB2 := Lib.hid B2
  have HD2 := Lib.hid D2
  have HE2 := Lib.hid E2
  clear D2 E2 B2 b2 HC HB HD HE HT HT' LD LE
  go_wp2_with (first | refine wpList_loadE LD2 _ rfl rfl rfl ?_ | refine wpList_loadE LE2 _ rfl rfl rfl ?_ | refine wpList_loadG LD2 _ rfl rfl rfl ?_ | refine wpList_loadG LE2 _ rfl rfl rfl ?_)
  refine HI.out.mono ?_
  rintro e w3 ⟨rfl, b3⟩
  have D3 := Blk.below HD2.out b3 HD2.out.lt
  have E3 := Blk.below HE2.out b3 HE2.out.lt
  have HB3 := Lib.hid (HB2.out.trans (b3.mono HB2.out.size))
  have d12 : w3.cell? ⟨w.heap.size, 12, none⟩ = some (.slice none 0 0) := D3.cell 12
  have e12 : w3.cell? ⟨w.heap.size + 1, 12, none⟩ = some (.slice none 0 0) := E3.cell 12
  have d13 : w3.cell? ⟨w.heap.size, 13, none⟩ = some (.int .i64 s.len) := D3.cell 13
  have e13 : w3.cell? ⟨w.heap.size + 1, 13, none⟩ = some (.int .i64 s.len) := E3.cell 13
  have HH := Lib.hid (same_hits w3)
  clear D3 E3 b3 HI HB2 HD2 HE2 LD2 LE2 d8 e8
  go_wp2_with fail
  refine HH.out.mono ?_
  rintro e w4 ⟨rfl, rfl⟩
  go_wp2_with fail
  go_ret
  exact ⟨rfl, HB3.out⟩
theorem same_nil (w : World) : Calls Try.prog 26 #[.slice none 0 0, .slice none 0 0] w fun e w' => e = .returned (.bool true) ∧ ∃ q, w' = w.drewN q := by
  have := same_ints none none 0 0 0 0 0 [] [] w Rd.nil_ Rd.nil_ (by decide) (by decide)
  exact this
set_option maxRecDepth 100000 in
set_option maxHeartbeats 1000000 in
theorem same_told {w : World} (c : Tk) (s : Ts) (V2 TV2 : Value) {cv vec : List Int} (h : VV w c.V cv) (h' : VV w V2 cv) (ht : VV w s.TV vec) (ht' : VV w TV2 vec) :
    Calls Try.prog 18 #[.agg (toldA c s), .agg (toldA { c with V := V2 } { s with TV := TV2 })] w fun e w' => e = .returned (.bool true) ∧ Below w.heap.size w w' := by
  obtain ⟨w1, hw1⟩ : ∃ x, (w.alloc (.cells (toldA c s) 37)).alloc (.cells (toldA { c with V := V2 } { s with TV := TV2 }) 37) = x := ⟨_, rfl⟩
  obtain ⟨D1, E1, b1⟩ := two_new hw1
  have d0 : w1.cell? ⟨w.heap.size, 0, none⟩ = some (.int .i64 0) := D1.cell 0
  have e0 : w1.cell? ⟨w.heap.size + 1, 0, none⟩ = some (.int .i64 0) := E1.cell 0
  have d14 : w1.cell? ⟨w.heap.size, 14, none⟩ = some (.int .i64 0) := D1.cell 14
  have e14 : w1.cell? ⟨w.heap.size + 1, 14, none⟩ = some (.int .i64 0) := E1.cell 14
  have d15 : w1.cell? ⟨w.heap.size, 15, none⟩ = some (.slice none 0 0) := D1.cell 15
  have e15 : w1.cell? ⟨w.heap.size + 1, 15, none⟩ = some (.slice none 0 0) := E1.cell 15
  have d16 : w1.cell? ⟨w.heap.size, 16, none⟩ = some (.int .i64 0) := D1.cell 16
  have e16 : w1.cell? ⟨w.heap.size + 1, 16, none⟩ = some (.int .i64 0) := E1.cell 16
  have HN := Lib.hid (same_nil w1)
  have HB := Lib.hid b1
  have HD := Lib.hid D1
  have HE := Lib.hid E1
  have HC := Lib.hid h
  have HC' := Lib.hid h'
  have HT := Lib.hid ht
  have HT' := Lib.hid ht'
  clear b1 D1 E1 h h' ht ht'
  go_enter Try.func18, Try.ntmps18
  go_upto_region 1 with fail
  (try rw [hw1])
  clear hw1
  go_wp2_with fail
  refine HN.out.mono ?_
  rintro e w2 ⟨rfl, q, rfl⟩
  have D2 : Blk (w1.drewN q) w.heap.size 37 (toldA c s) := HD.out
  have E2 : Blk (w1.drewN q) (w.heap.size + 1) 37 (toldA { c with V := V2 } { s with TV := TV2 }) := HE.out
  have LD := tl_load D2
  have LE := tl_load E2
  have B2 := below_drewN HB.out q
  have HS := Lib.hid (same_end c s V2 TV2 (HC.out.below B2) (HC'.out.below B2) (HT.out.below B2) (HT'.out.below B2))
  have HB2 := Lib.hid B2
  clear D2 E2 B2 HN HB HD HE HC HC' HT HT' d0 e0 d14 e14 d15 e15 d16 e16
  obtain ⟨w2, hw2⟩ : ∃ x, w1.drewN q = x := ⟨_, rfl⟩
  rw [hw2] at LD LE HS HB2 ⊢
  clear hw2
  go_wp2_with (first | refine wpList_loadE LD _ rfl rfl rfl ?_ | refine wpList_loadE LE _ rfl rfl rfl ?_ | refine wpList_loadG LD _ rfl rfl rfl ?_ | refine wpList_loadG LE _ rfl rfl rfl ?_)
  refine HS.out.mono ?_
  rintro e w3 ⟨rfl, b3⟩
  have HB3 := Lib.hid (HB2.out.trans (b3.mono HB2.out.size))
  clear b3 HB2 HS LD LE
  go_wp2_with fail
  go_ret
  exact ⟨rfl, HB3.out⟩
theorem op_item {w : World} {g t : Nat} {k a n id : Int} (h : Blk w g t (opA k a n id)) : (Instr.loadAt 25 (.pointer (some ⟨g, 7, none⟩))).run Try.prog w = .ok (.agg (itemL 0 (.slice none 0 0) 0)) w :=
  row_load_mid h 7 (itemL 0 (.slice none 0 0) 0) rfl Try.underlying25 rfl itemT
set_option maxRecDepth 100000 in
set_option maxHeartbeats 1000000 in
theorem same_op (w : World) (k a n id : Int) :
    Calls Try.prog 16 #[.agg (opA k a n id), .agg (opA k a n id)] w fun e w' => e = .returned (.bool true) ∧ Below w.heap.size w w' := by
  obtain ⟨w1, hw1⟩ : ∃ x, (w.alloc (.cells (opA k a n id) 44)).alloc (.cells (opA k a n id) 44) = x := ⟨_, rfl⟩
  obtain ⟨D1, E1, b1⟩ := two_new hw1
  obtain ⟨⟨r0, r1, r2, r3, r4, r5, r6, _⟩, _⟩ := op_cells D1
  obtain ⟨⟨s0, s1, s2, s3, s4, s5, s6, _⟩, _⟩ := op_cells E1
  have HN := Lib.hid (same_nil w1)
  have HB := Lib.hid b1
  have HD := Lib.hid D1
  have HE := Lib.hid E1
  clear b1 D1 E1
  go_enter Try.func16, Try.ntmps16
  go_upto_region 1 with fail
  (try rw [hw1])
  clear hw1
  go_wp2_with fail
  refine HN.out.mono ?_
  rintro e w2 ⟨rfl, q, rfl⟩
  have D2 : Blk (w1.drewN q) w.heap.size 44 (opA k a n id) := HD.out
  have E2 : Blk (w1.drewN q) (w.heap.size + 1) 44 (opA k a n id) := HE.out
  have LD := op_item D2
  have LE := op_item E2
  have B2 := below_drewN HB.out q
  have HS := Lib.hid (same_item (w := w1.drewN q) 0 0 (VV.nil_ _) (VV.nil_ _))
  have HB2 := Lib.hid B2
  clear D2 E2 B2 HN HB HD HE r0 r1 r2 r3 r4 r5 r6 s0 s1 s2 s3 s4 s5 s6
  obtain ⟨w2, hw2⟩ : ∃ x, w1.drewN q = x := ⟨_, rfl⟩
  rw [hw2] at LD LE HS HB2 ⊢
  clear hw2
  go_wp2_with (first | refine wpList_loadE LD _ rfl rfl rfl ?_ | refine wpList_loadE LE _ rfl rfl rfl ?_ | refine wpList_loadG LD _ rfl rfl rfl ?_ | refine wpList_loadG LE _ rfl rfl rfl ?_)
  refine HS.out.mono ?_
  rintro e w3 ⟨rfl, b3⟩
  have HB3 := Lib.hid (HB2.out.trans (b3.mono HB2.out.size))
  clear b3 HB2 HS LD LE
  go_wp2_with fail
  go_ret
  exact ⟨rfl, HB3.out⟩
end Go.Proofs.Ytkhnnjeinpojkaa
